/- The law PatchChecks walked. Conditions: strings of at most 10^9 bytes. -/
import Derived.Test.YthdninnjjmhpfaaDoorKc
import Derived.Test.YthdninnjjmhpfaaDoorCf
namespace Go.Proofs.YthdninnjjmhpfaaDoor
open Go.RowKit
set_option maxHeartbeats 4000000
set_option maxRecDepth 100000

theorem okC_few {xs : List Ch} (h : fewB xs = true) : okC xs := by
  obtain ⟨h1, h2⟩ := fewB_is h
  refine ⟨by omega, fun i hi => ?_⟩
  obtain ⟨a, _, b, _⟩ := fewOne_is (h2 i hi)
  omega
theorem ChecksL_any (v : Value) (xs : List Ch) (w : World) (hv : RdL w v xs) :
    Calls Tryd.prog 3 #[v] w fun e w' => e = .returned (.bool true) ∧ Below w.heap.size w w' := by
  have HV := Lib.hid hv
  have HFEW := Lib.hid (few_any v xs w hv)
  have HOK := Lib.hid (okC_few (xs := xs))
  clear hv
  generalize fewB xs = q at *
  cases q with
  | false =>
    go_enter Tryd.func3, Tryd.ntmps3
    go_wp2_with fail
    refine HFEW.out.mono ?_
    rintro e w1 ⟨rfl, hb1⟩
    go_wp2_with fail
    go_ret
    exact ⟨rfl, hb1⟩
  | true =>
  replace HOK := Lib.hid (HOK.out rfl)
  go_enter Tryd.func3, Tryd.ntmps3
  go_wp2_with fail
  refine HFEW.out.mono ?_
  rintro e w1 ⟨rfl, hb1⟩
  go_wp2_with fail
  refine (PChk_any v xs w1 HOK.out (HV.out.below hb1)).mono ?_
  rintro e w2 ⟨rfl, hb2⟩
  have hbw2 := hb1.trans (hb2.mono hb1.size)
  go_wp2_with fail
  refine (RChk_any v xs w2 HOK.out (HV.out.below hbw2)).mono ?_
  rintro e w3 ⟨rfl, hb3⟩
  have hbw3 := hbw2.trans (hb3.mono hbw2.size)
  go_wp2_with fail
  go_ret
  exact ⟨rfl, hbw3⟩
end Go.Proofs.YthdninnjjmhpfaaDoor
