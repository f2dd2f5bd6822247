/- The package utf, walked: head, scalar, width, Decode. Conditions: the string has at most maxLen bytes. -/
import Derived.Test.YthdninnjjmhpfaaStr
import Derived.WalkSpells
import Derived.WalkLawsBesides
namespace Go.Proofs.Ythdninnjjmhpfaa
open Go.RowKit
set_option maxHeartbeats 1000000
set_option maxRecDepth 100000

theorem hd_lt (b : Nat) : (hd b).1 ≤ 4 ∧ (hd b).2 < 128 := by
  unfold hd
  repeat' split
  all_goals constructor <;> simp <;> omega

end Go.Proofs.Ythdninnjjmhpfaa
