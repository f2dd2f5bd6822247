/- regex.derive walked at cat; printed by gen_ryd.py. Conditions: fewer than 10^6 nodes. -/
import Derived.Test.YtpkecepelcppiaaGreatDoorZa32
import Derived.Test.YtpkecepelcppiaaGreatDoorZa2
namespace Go.Proofs.YtpkecepelcppiaaGreatDoor
open Go.RowKit Go.Shelf
set_option maxHeartbeats 4000000
set_option maxRecDepth 100000

structure DerS (c : PC) (w wr : World) : Prop where
 box : BoxP w.heap.size c wr
 ret : BoxP (w.heap.size + 1) ⟨0, 0, 0, 0, 0, .slice none 0 0⟩ wr
 bel : Below w.heap.size w wr
theorem DerS.stay {c : PC} {w wr wx : World} (h : DerS c w wr) (hb : Below wr.heap.size wr wx) : DerS c w wx := ⟨h.box.below hb, h.ret.below hb, h.bel.trans (hb.mono h.bel.size)⟩
theorem cnt_part {d : Nat} {op lo hi mn mx : Int} {l : List RX} {q : RX} (h : cntN (d + 1) (.mk op lo hi mn mx l) ≤ 1000000) (hq : q ∈ l) : cntN d q ≤ 1000000 := by
 rw [cntN] at h
 have := sum_le_of_mem (g := cntN d) hq
 omega
theorem cnt_len {d : Nat} {op lo hi mn mx : Int} {l : List RX} (hs : sndR (d + 1) (.mk op lo hi mn mx l) = true) (h : cntN (d + 1) (.mk op lo hi mn mx l) ≤ 1000000) : l.length ≤ 1000000 := by
 rw [cntN] at h
 have hk := (snd_node hs).2
 have : ∀ l : List RX, (∀ q ∈ l, sndR d q = true) → l.length ≤ (l.map (cntN d)).sum := by
  intro l
  induction l with
  | nil => intro _; simp
  | cons a t ih =>
   intro hl
   have h1 := snd_pos (hl a (by simp))
   have h2 := cnt_pos (p := a) h1
   have h3 := ih (fun q hq => hl q (by simp [hq]))
   simp only [List.map_cons, List.sum_cons, List.length_cons]
   omega
 have := this l hk
 omega
end Go.Proofs.YtpkecepelcppiaaGreatDoor

namespace Go.Proofs.YtpkecepelcppiaaGreatDoor
open Go.RowKit Go.Shelf
set_option maxHeartbeats 4000000
set_option maxRecDepth 100000

end Go.Proofs.YtpkecepelcppiaaGreatDoor
