/- The package datakitref03, walked: Decode. Conditions: the string has at most maxLen bytes. -/
import Derived.Test.YtmafggfonapmpaaDoorRef3
import Derived.Deep.DeepCutAuto
import Derived.Deep.CutBlock
namespace Go.Proofs.YtmafggfonapmpaaDoor
open Go.RowKit
set_option maxHeartbeats 1000000
set_option maxRecDepth 100000

theorem hdR_lt (b : UInt8) : 1 ≤ (hdR b.toNat).1 ∧ (hdR b.toNat).1 ≤ 4 ∧ (hdR b.toNat).2 < 256 := by
  have := b.toNat_lt
  unfold hdR
  repeat' split
  all_goals simp
  all_goals omega
end Go.Proofs.YtmafggfonapmpaaDoor
