/- The package datakitref19, walked: escapes. Conditions: strings of at most 10^11 bytes. -/
import Derived.Test.YtmafggfonapmpaaDoorR1
namespace Go.Proofs.YtmafggfonapmpaaDoor
open Go.RowKit
set_option maxHeartbeats 1000000
set_option maxRecDepth 100000

/-- One byte more. -/
def bump (x : Nat × Nat × Nat) : Nat × Nat × Nat := (x.1, x.2.1 + 1, x.2.2)
theorem bump_same {x : Nat × Nat × Nat} {r n k : Nat} (h : x = (r, n, k)) : EscPost (bump x) (.returned (.tuple #[.int .i64 r, .int .i64 ((n + 1 : Nat) : Int), .int .i64 k])) := by
  subst h
  exact ⟨r, n + 1, rfl, fun _ => ⟨rfl, rfl⟩⟩
theorem bump_err {x : Nat × Nat × Nat} {r n k : Nat} (h : x.2.2 = k) (hk : k ≠ 0) : EscPost (bump x) (.returned (.tuple #[.int .i64 r, .int .i64 n, .int .i64 k])) := by
  subst h
  exact ⟨r, n, rfl, fun h => absurd h hk⟩
end Go.Proofs.YtmafggfonapmpaaDoor
