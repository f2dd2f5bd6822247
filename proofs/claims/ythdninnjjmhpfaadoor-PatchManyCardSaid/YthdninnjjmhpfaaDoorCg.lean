/- datakitref55.Same walked. Conditions: none. -/
import Derived.Test.YthdninnjjmhpfaaDoorCf
import Derived.Test.YthdninnjjmhpfaaDoorLd
namespace Go.Proofs.YthdninnjjmhpfaaDoor
open Go.RowKit
set_option maxHeartbeats 4000000
set_option maxRecDepth 100000

theorem stC : StT Tryd.prog 39 29 := ⟨by kernel_rfl, by kernel_rfl⟩
theorem stV : StT Tryd.prog 37 13 := ⟨by kernel_rfl, by kernel_rfl⟩
theorem drewB (w : World) : Below w.heap.size w w.drew := ⟨rfl, rfl, rfl, Nat.le_refl _, fun _ _ => rfl⟩
end Go.Proofs.YthdninnjjmhpfaaDoor
