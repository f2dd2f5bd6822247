/- What the listed variables of the rows of datakitlaw17 give. Conditions: none. -/
import Derived.Test.YtpkecepelcppiaaGreatDoorZd28
import Derived.Test.YtpkecepelcppiaaGreatDoorZd4
import Derived.LaidMore
import Derived.Stop.LaidErr
import Derived.Stop.Joined
namespace Go.Proofs.YtpkecepelcppiaaGreatDoor
open Go.ChangeShapes Go.WideShapes Go.ChangeAt Go.RowKit
set_option maxRecDepth 100000

theorem envF_of_laid {W : World} (h : laidMetH Tryz.prog Rows.formatsChecksRow.laid W) : Env W := by
 rw [MakeChecks.laidMetH_plain _ _ _ (by kernel_rfl)] at h
 have h4 := laidMet.tail (laidMet.tail (laidMet.tail (laidMet.tail h)))
 obtain ⟨a0, s0, hv0, _⟩ := laid_sentinel h4 (g := 6) (by kernel_rfl) (by kernel_rfl) Tryz.underlying111 (tp := 220) (te := 222) (ts := 9) (fun u hu => typeName_ptr_named (nm := "errors.errorString") (by kernel_rfl) (by kernel_rfl) (by decide) u (hu.trans (congrArg some (by decide)))) Tryz.underlying220 Tryz.underlying222 rfl rfl Tryz.underlying9 (by kernel_rfl) (by kernel_rfl)
 have hc0 := World.var?_cell (g := 6) (by kernel_rfl) hv0 0
 refine ⟨?_, _, hc0, .inr ⟨_, _, rfl⟩⟩
 have := (show 6 < W.heap.size from by
  rcases Nat.lt_or_ge 6 W.heap.size with h1 | h1
  ·exact h1
  ·simp [World.cell?, Array.getElem?_eq_none h1] at hc0)
 exact this
end Go.Proofs.YtpkecepelcppiaaGreatDoor
