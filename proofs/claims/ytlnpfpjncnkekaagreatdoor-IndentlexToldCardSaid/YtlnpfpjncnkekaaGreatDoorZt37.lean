/- The rows of the package datakitlaw21: what a row's listed tables and the world's shape give to the walks. Conditions: none. -/
import Derived.Test.YtlnpfpjncnkekaaGreatDoorZt29
import Derived.Test.YtlnpfpjncnkekaaGreatDoorZt2
import Derived.Lib.LaidU8
import Derived.Deep.DeepHandedRow
import Derived.MakeChecks
namespace Go.Proofs.YtlnpfpjncnkekaaGreatDoor
open Go.RowKit
set_option maxRecDepth 100000
set_option maxHeartbeats 1000000

abbrev laidI : List (String × DataW Unit) := [("unicode/utf8.acceptRanges", Rows.laid_unicode_utf8_acceptRanges), ("unicode/utf8.first", Rows.laid_unicode_utf8_first)]
theorem envI_of_laid {W : World} (h : laidMetH Tryz.prog laidI W) (hs : W.ShapedOpen Tryz.prog) : EnvI W := by
  rw [MakeChecks.laidMetH_plain _ _ _ (by kernel_rfl)] at h
  have h1 := Lib.laidMet.reads h (.head _)
  have h2 := Lib.laidMet.reads h (.tail _ (.head _))
  have e1 : (Rows.laid_unicode_utf8_acceptRanges : DataW Unit) = Lib.acceptData := by kernel_rfl
  have e2 : Rows.laid_unicode_utf8_first = Lib.firstData := by kernel_rfl
  rw [e1] at h1
  rw [e2] at h2
  refine ⟨utf8Tabs_of_reads Tryz.lays260 ⟨by kernel_rfl, by kernel_rfl, by kernel_rfl, by kernel_rfl, by kernel_rfl, by kernel_rfl, by kernel_rfl⟩ h2 h1, ?_⟩
  exact Tryz.laysM144.s1_3 W hs
end Go.Proofs.YtlnpfpjncnkekaaGreatDoor
