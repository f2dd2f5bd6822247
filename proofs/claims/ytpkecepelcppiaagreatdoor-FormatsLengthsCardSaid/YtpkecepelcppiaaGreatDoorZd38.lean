/- datakitref15.atom walked; printed by gen_rpg.py. Conditions: strings of at most 10^8 bytes. -/
import Derived.Test.YtpkecepelcppiaaGreatDoorZd37
import Derived.Test.YtpkecepelcppiaaGreatDoorZd3
import Derived.Test.YtpkecepelcppiaaGreatDoorZd21
namespace Go.Proofs.YtpkecepelcppiaaGreatDoor
open Go.RowKit Go.Shelf
set_option maxHeartbeats 4000000
set_option maxRecDepth 100000

theorem RetP.f {N : Nat → Prop} {p : RX} {w w' : World} {e : Ending} (h : RetP N p w e w') : RetF p w e w' := by
 obtain ⟨c, he, hq, hb⟩ := h
 exact ⟨c, he, hq.rd, hb⟩
end Go.Proofs.YtpkecepelcppiaaGreatDoor

namespace Go.Proofs.YtpkecepelcppiaaGreatDoor
open Go.RowKit Go.Shelf
set_option maxHeartbeats 4000000
set_option maxRecDepth 100000

theorem par_fin {w wr w4 : World} {z d : PC} {q : RX} (hx : BoxP w.heap.size z wr) (hb : Below w.heap.size w wr) (hd : RdQ (fun g => w.heap.size < g) wr d q)
  (he : ((((((wr.setCell ⟨w.heap.size, 0, none⟩ (.int .i64 d.op)).setCell ⟨w.heap.size, 1, none⟩ (.int .i64 d.lo)).setCell ⟨w.heap.size, 2, none⟩ (.int .i64 d.hi)).setCell ⟨w.heap.size, 3, none⟩ (.int .i64 d.mn)).setCell ⟨w.heap.size, 4, none⟩ (.int .i64 d.mx)).setCell ⟨w.heap.size, 5, none⟩ d.a) = w4) :
  BoxP w.heap.size d w4 ∧ RdQ (fun g => w.heap.size ≤ g) w4 d q ∧ Below w.heap.size w w4 := by
 obtain ⟨b1, b2⟩ := hx.set he
 have ho := set6_other he
 exact ⟨b1, (hd.keep (fun x hx _ => ho x (by omega))).mono (fun g hg _ => Nat.le_of_lt hg), hb.trans b2⟩
theorem leaf_rdq (N : Nat → Prop) (w : World) (op lo hi : Int) : RdQ N w ⟨op, lo, hi, 0, 0, .slice none 0 0⟩ (.mk op lo hi 0 0 []) :=
 .mk op lo hi 0 0 [] _ (fun _ => ⟨0, 0, 0, 0, 0, .slice none 0 0⟩) SlX.nil (fun h => absurd h (Nat.lt_irrefl _)) (fun _ h => absurd h (Nat.not_lt_zero _))
end Go.Proofs.YtpkecepelcppiaaGreatDoor
