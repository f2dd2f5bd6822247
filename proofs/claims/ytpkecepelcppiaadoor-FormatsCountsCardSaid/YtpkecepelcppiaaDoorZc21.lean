/- datakitref15.letter walked; printed by gen_rpb.py. Conditions: strings of at most 10^8 bytes. -/
import Derived.Test.YtpkecepelcppiaaDoorZc20
import Derived.RegionTactic
import Derived.BigRegion
import Derived.Test.YtpkecepelcppiaaDoorZc17
import Derived.Test.YtpkecepelcppiaaDoorZc11
namespace Go.Proofs.YtpkecepelcppiaaDoor
open Go.RowKit Go.Shelf
set_option maxHeartbeats 4000000
set_option maxRecDepth 100000

end Go.Proofs.YtpkecepelcppiaaDoor

namespace Go.Proofs.YtpkecepelcppiaaDoor
open Go.RowKit Go.Shelf
set_option maxHeartbeats 4000000
set_option maxRecDepth 100000

theorem conv_at (w : World) (k : Nat) (a : Int) (h : w.heap[k]? = some (.cells #[.int .u8 a] 5)) : (convert 96 9 (.slice (some ⟨k, 0, none⟩) 1 1)).run Tryd.prog w = .ok (.string ⟨#[UInt8.ofNat a.toNat]⟩) w := by
 refine run_convert_bytes_arg (P := Tryd.prog) _ 96 5 Tryd.underlying96 Tryd.underlying5 k 0 1 1 [a] rfl (fun i hi => ?_) 9 Tryd.underlying9
 obtain rfl : i = 0 := by simp at hi; omega
 exact cell_of_row w k _ _ _ (0, 0) h
theorem hexI_le (c : Int) (hc : -1 ≤ c ∧ c ≤ 255) : -1 ≤ hexI c ∧ hexI c ≤ 15 := by
 unfold hexI
 split
 ·omega
 split
 ·omega
 ·omega
end Go.Proofs.YtpkecepelcppiaaDoor
