/- The law PathCompares walked. Conditions: the variables of strconv and math/bits read as laid. -/
import Derived.Test.YtjbhjnelepbkcaaDoorLv
namespace Go.Proofs.YtjbhjnelepbkcaaDoor
open Go.RowKit Go.Shelf
set_option maxHeartbeats 2000000
set_option maxRecDepth 100000

theorem CompL_any (v u : Value) (l m : List St) (w : World) (hv : Rd w v l) (hu : Rd w u m) (he : Env w) :
    Calls Tryd.prog 7 #[v, u] w fun e w' => e = .returned (.bool true) ∧ Below w.heap.size w w' := by
  have HRV := Lib.hid (RValid_any v l w hv)
  have HV := Lib.hid hv
  have HU := Lib.hid hu
  have HE := Lib.hid he
  clear hv hu he
  cases hl : validP l
  case false =>
    rw [hl] at HRV
    clear hl
    go_enter Tryd.func7, Tryd.ntmps7
    go_wp2_with fail
    refine HRV.out.mono ?_
    rintro e w1 ⟨rfl, hb1⟩
    go_wp2_with fail
    refine (lives_any w1 (HE.out.below hb1)).mono ?_
    rintro e w2 ⟨rfl, hb2⟩
    go_wp2_with fail
    go_ret
    exact ⟨rfl, hb1.trans (hb2.mono hb1.size)⟩
  rw [hl] at HRV
  have HVL := Lib.hid hl
  clear hl
  cases hm : validP m
  case false =>
    go_enter Tryd.func7, Tryd.ntmps7
    go_wp2_with fail
    refine HRV.out.mono ?_
    rintro e w1 ⟨rfl, hb1⟩
    have HRM := Lib.hid (RValid_any u m w1 (HU.out.below hb1))
    rw [hm] at HRM
    clear hm
    go_wp2_with fail
    refine HRM.out.mono ?_
    rintro e w2 ⟨rfl, hb2⟩
    have hbw2 := hb1.trans (hb2.mono hb1.size)
    go_wp2_with fail
    refine (lives_any w2 (HE.out.below hbw2)).mono ?_
    rintro e w3 ⟨rfl, hb3⟩
    go_wp2_with fail
    go_ret
    exact ⟨rfl, hbw2.trans (hb3.mono hbw2.size)⟩
  have HVM := Lib.hid hm
  go_enter Tryd.func7, Tryd.ntmps7
  go_wp2_with fail
  refine HRV.out.mono ?_
  rintro e w1 ⟨rfl, hb1⟩
  have HRM := Lib.hid (RValid_any u m w1 (HU.out.below hb1))
  rw [hm] at HRM
  clear hm HRV
  go_wp2_with fail
  refine HRM.out.mono ?_
  rintro e w2 ⟨rfl, hb2⟩
  have hbw2 : Below w.heap.size w w2 := hb1.trans (hb2.mono hb1.size)
  clear hb1 hb2 HRM
  go_wp2_with fail
  refine (PEqual_any v u l m w2 (HV.out.below hbw2) (HU.out.below hbw2)).mono ?_
  rintro e w3 ⟨rfl, hb3⟩
  have hbw3 : Below w.heap.size w w3 := hbw2.trans (hb3.mono hbw2.size)
  clear hbw2 hb3
  go_wp2_with fail
  refine (REqual_any v u l m w3 (HV.out.below hbw3) (HU.out.below hbw3)).mono ?_
  rintro e w4 ⟨rfl, hb4⟩
  have hbw4 : Below w.heap.size w w4 := hbw3.trans (hb4.mono hbw3.size)
  clear hbw3 hb4
  have hdd : (decide (l = m) == decide (l = m)) = true := beq_self_eq_true _
  generalize decide (l = m) = de at *
  go_wp2_with fail
  refine (PCmp_any v u l m w4 (HV.out.below hbw4) (HU.out.below hbw4)).mono ?_
  rintro e w5 ⟨rfl, hb5⟩
  have hbw5 : Below w.heap.size w w5 := hbw4.trans (hb5.mono hbw4.size)
  clear hbw4 hb5
  go_wp2_with fail
  refine (RCmp_any v u l m w5 (HV.out.below hbw5) (HU.out.below hbw5)).mono ?_
  rintro e w6 ⟨rfl, hb6⟩
  have hbw6 : Below w.heap.size w w6 := hbw5.trans (hb6.mono hbw5.size)
  clear hbw5 hb6
  rw [cmp_same l m (all_ok HVL.out).1 (all_ok HVM.out).1]
  have hcc : (cmpP l m == cmpP l m) = true := beq_self_eq_true _
  generalize cmpP l m = cp at *
  go_wp2_with fail
  refine (PUnder_any v u l m w6 (HV.out.below hbw6) (HU.out.below hbw6)).mono ?_
  rintro e w7 ⟨rfl, hb7⟩
  have hbw7 : Below w.heap.size w w7 := hbw6.trans (hb7.mono hbw6.size)
  clear hbw6 hb7
  go_wp2_with fail
  refine (RUnder_any v u l m w7 (HV.out.below hbw7) (HU.out.below hbw7)).mono ?_
  rintro e w8 ⟨rfl, hb8⟩
  have hbw8 : Below w.heap.size w w8 := hbw7.trans (hb8.mono hbw7.size)
  clear hbw7 hb8
  have huu : (underL l m == underL l m) = true := beq_self_eq_true _
  generalize underL l m = ul at *
  go_wp2_with fail
  refine (lives_any w8 (HE.out.below hbw8)).mono ?_
  rintro e w9 ⟨rfl, hb9⟩
  go_wp2_with fail
  go_ret
  exact ⟨rfl, hbw8.trans (hb9.mono hbw8.size)⟩
end Go.Proofs.YtjbhjnelepbkcaaDoor
