/- The package datakitref03, walked: Boundaries, Bad, Valid. Conditions: the string has at most 2^31 bytes. -/
import Derived.Test.YtmafggfonapmpaaDoorRef3b
import Derived.Test.YtmafggfonapmpaaDoorMem
namespace Go.Proofs.YtmafggfonapmpaaDoor
open Go.RowKit
set_option maxHeartbeats 1000000
set_option maxRecDepth 100000

theorem ints_one (l : List Nat) : ∀ u ∈ l.map (fun n : Nat => Value.int .i64 (n : Int)), u.oneCell' = true := by
  intro u hu
  obtain ⟨n, _, rfl⟩ := List.mem_map.1 hu
  rfl
abbrev iv (n : Nat) : Value := .int .i64 (n : Int)

end Go.Proofs.YtmafggfonapmpaaDoor
