/- What the bound on the bulk of what is read says of its parts: each string and each slice is short. Conditions: none. -/
import Derived.Test.YtlnpfpjncnkekaaGreatDoorRows
import Derived.ProofKit
import Derived.Deep.Slices
namespace Go.Proofs.YtlnpfpjncnkekaaGreatDoor
open Go.RowKit
set_option maxRecDepth 100000

theorem i64_of_wf {n : Int} (h : (Lit.int .i64 n).wf = true) : -9223372036854775808 ≤ n ∧ n ≤ 9223372036854775807 := by
  unfold Lit.wf at h
  rw [Bool.and_eq_true] at h
  exact ⟨of_decide_eq_true h.1, of_decide_eq_true h.2⟩
end Go.Proofs.YtlnpfpjncnkekaaGreatDoor
