/- datakitref55.Same walked. Conditions: none. -/
import Derived.Test.YtemiihkmpojpgaaGreatDoorZq18
import Derived.Test.YtemiihkmpojpgaaGreatDoorZq7
namespace Go.Proofs.YtemiihkmpojpgaaGreatDoor
open Go.RowKit
set_option maxHeartbeats 4000000
set_option maxRecDepth 100000

theorem stC : StT Tryz.prog 46 29 := ⟨by kernel_rfl, by kernel_rfl⟩
theorem stV : StT Tryz.prog 30 13 := ⟨by kernel_rfl, by kernel_rfl⟩
theorem drewB (w : World) : Below w.heap.size w w.drew := ⟨rfl, rfl, rfl, Nat.le_refl _, fun _ _ => rfl⟩
theorem Same55_any (v u : Value) (xs : List Ch) (w : World) (hv : RdL w v xs) (hu : RdL w u xs) :
    Calls Tryz.prog 8 #[v, u] w fun e w' => e = .returned (.bool true) ∧ Below w.heap.size w w' := by
  obtain ⟨cc, ⟨a, cap, rfl, h1, ⟨h2, _⟩, h3, h4⟩, hc⟩ := hv
  obtain ⟨cc', ⟨a', cap', rfl, h1', ⟨h2', _⟩, h3', h4'⟩, hc'⟩ := hu
  have HA := Lib.hid h4
  have HA' := Lib.hid h4'
  have HC := Lib.hid hc
  have HC' := Lib.hid hc'
  clear h4 h3 hc h4' h3' hc'
  have hq : ((xs.length : Int) != xs.length) = false := by rw [bne_eq_false_iff_eq]
  go_enter Tryz.func8, Tryz.ntmps8
  go_wp2_with fail
  clear hq
  go_loopw [5] (fun i wr => ∃ k : Nat, k ≤ xs.length ∧ i = .int .i64 k ∧ Below w.heap.size w wr) (fun i _ => xs.length - (intOf i).toNat)
  case atStart => exact ⟨0, Nat.zero_le _, rfl, Below.refl _ _⟩
  case round =>
    obtain ⟨k, hk, rfl, hbw⟩ := hrel
    by_cases hlt : k < xs.length
    case neg =>
      go_wp2_with fail
      go_ret
      exact ⟨rfl, hbw⟩
    obtain ⟨g, o, rfl, hg, hat⟩ := HA.out (by omega)
    obtain ⟨g', o', rfl, hg', hat'⟩ := HA'.out (by omega)
    have hrd := HC.out k hlt
    have hrd' := HC'.out k hlt
    have HS : Hid (∀ w', Below w.heap.size w w' → Calls Tryz.prog 13 #[aggC (cc k), aggC (cc' k)] w' fun e w2 => e = .returned (.bool true) ∧ Below w'.heap.size w' w2) := fun w' hb => by
      have := SameChange_any (cc k) (cc' k) xs[k] xs[k] w' (hrd.stays hb) (hrd'.stays hb)
      rw [sameC_self] at this
      exact this
    have hc29 := fun j hj => (hbw.cell hg).trans (hat k hlt j hj)
    have hd29 := fun j hj => (hbw.cell hg').trans (hat' k hlt j hj)
    clear hat hat' hrd hrd'
    generalize cc k = c at *
    generalize cc' k = c' at *
    have HX := Lib.hid hc29
    have HY := Lib.hid hd29
    clear hc29 hd29
    go_wp2_with fail
    refine wp_region_still_tail 8 (by kernel_rfl) (by kernel_rfl) ?_
    simp only [List.take_succ_cons, List.take_zero, List.drop_succ_cons, List.drop_zero]
    iterate 3 still_step
    refine still_load stC (ccells_len c) g (o + k * 29) HX.out rfl _ rfl rfl ?_
    iterate 3 still_step
    refine still_load stC (ccells_len c') g' (o' + k * 29) HY.out rfl _ rfl rfl ?_
    refine wpStill_nil ?_
    change wpList _ _ _ _ _ wr.drew
    have hbw3 : Below w.heap.size w wr.drew := hbw.trans ((drewB wr).mono hbw.size)
    clear HX HY hbw
    generalize wr.drew = w3 at *
    have HC3 := Lib.hid (HS.out w3 hbw3)
    clear HS
    go_wp2_with fail
    refine HC3.out.mono ?_
    rintro ee w4 ⟨rfl, hb4⟩
    have hbw4 := hbw3.trans (hb4.mono hbw3.size)
    clear HC3 hbw3 hb4
    go_wp2_with fail
    exact ⟨⟨k + 1, by omega, rfl, hbw4⟩, by simp [intOf]; omega⟩
end Go.Proofs.YtemiihkmpojpgaaGreatDoor
