/- (*datakitref15.spot).ends walked, operator by operator; printed by gen_rzx.py. Conditions: strings of at most 10^6 bytes. -/
import Derived.Test.YtpkecepelcppiaaGreatDoorZd40
namespace Go.Proofs.YtpkecepelcppiaaGreatDoor
open Go.RowKit Go.Shelf
set_option maxHeartbeats 4000000
set_option maxRecDepth 100000

theorem KeepM.cell {Rb : Nat → Option RX} {w w' : World} (h : KeepM Rb w w') {g o : Nat} (hg : g < w.heap.size) (hn : Rb g = none) : w'.cell? ⟨g, o, none⟩ = w.cell? ⟨g, o, none⟩ := by
 unfold World.cell?
 rw [h.block g hg hn]
theorem BoxS.keepM {Rb : Nat → Option RX} {b : Nat} {c : PC} {av rv : Value} {w w' : World} (h : BoxS b c av rv w) (hn : Rb b = none) (hk : KeepM Rb w w') : BoxS b c av rv w' := (hk.block b h.lt hn).trans h
structure RwS (s : List UInt8) (Rb : Nat → Option RX) (Z : Nat → Prop) (w wr : World) (i : Nat) (P : Nat → Prop) : Prop where
 memo : MemoZ s Rb (fun x => Z x ∨ x = w.heap.size + 1) wr
 keep : KeepM Rb w wr
 one : BlkB wr w.heap.size (s.length + 1) (fun j => j = i)
 outB : BlkB wr (w.heap.size + 1) (s.length + 1) P
theorem RwS.congr {s : List UInt8} {Rb : Nat → Option RX} {Z : Nat → Prop} {w wr : World} {i : Nat} {P Q : Nat → Prop} (h : RwS s Rb Z w wr i P) (e : ∀ j, j < s.length + 1 → (P j ↔ Q j)) : RwS s Rb Z w wr i Q := ⟨h.memo, h.keep, h.one, h.outB.congr e⟩
end Go.Proofs.YtpkecepelcppiaaGreatDoor

namespace Go.Proofs.YtpkecepelcppiaaGreatDoor
open Go.RowKit Go.Shelf
set_option maxHeartbeats 4000000
set_option maxRecDepth 100000

structure EnS (s : List UInt8) (Rb : Nat → Option RX) (Z : Nat → Prop) (w wr : World) (a : Nat) (G : Nat → Prop) : Prop where
 rb : Rb a = none
 nz : ¬ Z a
 blk : BlkB wr a (s.length + 1) G
 memo : MemoZ s Rb Z wr
 keep : KeepM Rb w wr
theorem EnS.ret {s : List UInt8} {Rb : Nat → Option RX} {Z : Nat → Prop} {w wr : World} {a : Nat} {G : Nat → Prop} (h : EnS s Rb Z w wr a G) : RetM s Rb Z G w (.returned (svB a (s.length + 1))) wr := ⟨a, rfl, h.rb, h.nz, h.blk, h.memo, h.keep⟩
theorem EnS.congr {s : List UInt8} {Rb : Nat → Option RX} {Z : Nat → Prop} {w wr : World} {a : Nat} {G H : Nat → Prop} (h : EnS s Rb Z w wr a G) (e : ∀ j, j < s.length + 1 → (G j ↔ H j)) : EnS s Rb Z w wr a H := ⟨h.rb, h.nz, h.blk.congr e, h.memo, h.keep⟩
theorem EnS.stay {s : List UInt8} {Rb : Nat → Option RX} {Z : Nat → Prop} {w wr wx : World} {a : Nat} {G : Nat → Prop} (h : EnS s Rb Z w wr a G) (hb : Below wr.heap.size wr wx) : EnS s Rb Z w wx a G := ⟨h.rb, h.nz, h.blk.stay hb, h.memo.stay hb, h.keep.trans (KeepM.below hb)⟩
theorem EnS.call {s : List UInt8} {Rb : Nat → Option RX} {Z : Nat → Prop} {w wr w6 : World} {a : Nat} {G H : Nat → Prop} {e : Ending} (h : EnS s Rb Z w wr a G) (hc : RetM s Rb Z H wr e w6) : ∃ b, e = .returned (svB b (s.length + 1)) ∧ EnS s Rb Z w w6 a G ∧ EnS s Rb Z w w6 b H := by
 obtain ⟨b, rfl, h1, h2, h3, h4, h5⟩ := hc
 exact ⟨b, rfl, ⟨h.rb, h.nz, h.blk.keepM h.rb h5, h4, h.keep.trans h5⟩, ⟨h1, h2, h3, h4, h.keep.trans h5⟩⟩
end Go.Proofs.YtpkecepelcppiaaGreatDoor
