/- datakitlaw15.awake walked. Conditions: the value of strconv.ErrSyntax. -/
import Derived.Test.YtpkecepelcppiaaGreatDoorZd38
import Derived.Test.YtpkecepelcppiaaGreatDoorZd3
import Derived.Test.YtpkecepelcppiaaGreatDoorZd34
import Derived.Test.YtpkecepelcppiaaGreatDoorZd37
import Derived.Test.YtpkecepelcppiaaGreatDoorZd32
import Derived.Test.YtpkecepelcppiaaGreatDoorZd20
import Derived.Test.YtpkecepelcppiaaGreatDoorZd1
namespace Go.Proofs.YtpkecepelcppiaaGreatDoor
open Go.RowKit Go.Shelf
set_option maxHeartbeats 4000000
set_option maxRecDepth 100000

structure FinI (s : ByteArray) (m : Nat) (O : Option (RX × List UInt8)) (J : RX) (k : Nat) (b : Bool) : Prop where
 le : k ≤ s.size + m
 tru : b = true → k ≤ s.size ∧ O = some (J, (L s).drop k)
 fls : b = false → O = none
theorem FinI.fin {s : ByteArray} {m : Nat} {O : Option (RX × List UInt8)} {J : RX} {k : Nat} {b : Bool} : FinI s m O J k b →
  match O with
  | some x => b = true ∧ J = x.1 ∧ k ≤ s.size ∧ (L s).drop k = x.2
  | none => b = false := by
 intro h
 cases b with
 | true =>
  obtain ⟨h1, h2⟩ := h.tru rfl
  rw [h2]
  exact ⟨rfl, rfl, h1, rfl⟩
 | false =>
  rw [h.fls rfl]
structure LoopI (s : ByteArray) (m : Nat) (O : Option (RX × List UInt8)) (G : List RX → List UInt8 → Option (RX × List UInt8)) (ps : List RX) (k : Nat) (b : Bool) : Prop where
 le : k ≤ s.size + m
 tru : b = true → ps.length ≤ k ∧ k ≤ s.size ∧ O = G ps ((L s).drop k)
 fls : b = false → O = none
theorem LoopI.done {s : ByteArray} {m : Nat} {O : Option (RX × List UInt8)} {G : List RX → List UInt8 → Option (RX × List UInt8)} {ps : List RX} {k : Nat} {J : RX} (h : LoopI s m O G ps k false) : FinI s m O J k false :=
 ⟨h.le, fun hb => (by cases hb), h.fls⟩
end Go.Proofs.YtpkecepelcppiaaGreatDoor

namespace Go.Proofs.YtpkecepelcppiaaGreatDoor
open Go.RowKit Go.Shelf
set_option maxHeartbeats 4000000
set_option maxRecDepth 100000

end Go.Proofs.YtpkecepelcppiaaGreatDoor

namespace Go.Proofs.YtpkecepelcppiaaGreatDoor
open Go.RowKit Go.Shelf
set_option maxRecDepth 100000
set_option maxHeartbeats 1000000

end Go.Proofs.YtpkecepelcppiaaGreatDoor

namespace Go.Proofs.YtpkecepelcppiaaGreatDoor
open Go.RowKit Go.Shelf
set_option maxHeartbeats 4000000
set_option maxRecDepth 100000

end Go.Proofs.YtpkecepelcppiaaGreatDoor

namespace Go.Proofs.YtpkecepelcppiaaGreatDoor
open Go.RowKit Go.Shelf
set_option maxHeartbeats 4000000
set_option maxRecDepth 100000

structure AwS (b1 b9 : Nat) (c1 c9 : PC) (p q : RX) (w0 w : World) : Prop where
 x1 : BoxP b1 c1 w
 x9 : BoxP b9 c9 w
 r1 : RdP w c1 p
 r9 : RdP w c9 q
 bel : Below w0.heap.size w0 w
theorem AwS.stay {b1 b9 : Nat} {c1 c9 : PC} {p q : RX} {w0 w w' : World} (h : AwS b1 b9 c1 c9 p q w0 w) (hb : Below w.heap.size w w') : AwS b1 b9 c1 c9 p q w0 w' := ⟨h.x1.below hb, h.x9.below hb, h.r1.stays hb, h.r9.stays hb, h.bel.trans (hb.mono h.bel.size)⟩
end Go.Proofs.YtpkecepelcppiaaGreatDoor
