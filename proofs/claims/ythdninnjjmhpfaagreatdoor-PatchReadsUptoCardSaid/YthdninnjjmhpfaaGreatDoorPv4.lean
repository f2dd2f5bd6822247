/- The packages path and datakitref08, walked: Under. Conditions: none. -/
import Derived.Test.YthdninnjjmhpfaaGreatDoorPv3
namespace Go.Proofs.YthdninnjjmhpfaaGreatDoor
open Go.RowKit
set_option maxHeartbeats 1000000
set_option maxRecDepth 100000

def underL (l m : List St) : Bool := decide (m.length ≤ l.length ∧ l.take m.length = m)
theorem PUnder_any (v u : Value) (l m : List St) (w : World) (hv : Rd w v l) (hu : Rd w u m) :
    Calls Tryz.prog 43 #[v, u] w fun e w' => e = .returned (.bool (underL l m)) ∧ Below w.heap.size w w' := by
  have hv' := hv
  have hu' := hu
  obtain ⟨a, cap, rfl, hcap, hmax, hz, hl⟩ := hv
  obtain ⟨b, cap', rfl, hcap', hmax', _, hm⟩ := hu
  simp only [maxLen] at hmax hmax'
  by_cases hlen : m.length ≤ l.length
  case neg =>
    have HF : Hid (underL l m = false) := decide_eq_false (fun h => hlen h.1)
    have h1 : ¬ (m.length : Int) ≤ l.length := by omega
    clear hlen hz hl hm hv' hu'
    go_enter Tryz.func43, Tryz.ntmps43
    go_wp2_with fail
    go_ret
    exact ⟨by rw [HF.out]; rfl, Below.refl _ _⟩
  have h1 : (m.length : Int) ≤ l.length := by omega
  have HU := Lib.hid (hv'.upto m.length hlen)
  have HM := Lib.hid hu'
  have HF : Hid (underL l m = decide (l.take m.length = m)) := by unfold Hid underL; simp [hlen]
  clear hl hm hv' hu'
  cases a with
  | none =>
    obtain rfl := hz rfl
    clear hz
    go_enter Tryz.func43, Tryz.ntmps43
    go_wp2_with fail
    refine (PEqual_any _ _ _ _ _ HU.out HM.out).mono ?_
    rintro e w1 ⟨rfl, hb1⟩
    go_wp2_with fail
    go_ret
    exact ⟨by rw [HF.out]; rfl, hb1⟩
  | some A =>
    clear hz
    go_enter Tryz.func43, Tryz.ntmps43
    go_wp2_with fail
    refine (PEqual_any _ _ _ _ _ HU.out HM.out).mono ?_
    rintro e w1 ⟨rfl, hb1⟩
    go_wp2_with fail
    go_ret
    exact ⟨by rw [HF.out]; rfl, hb1⟩
theorem RUnder_any (v u : Value) (l m : List St) (w : World) (hv : Rd w v l) (hu : Rd w u m) :
    Calls Tryz.prog 47 #[v, u] w fun e w' => e = .returned (.bool (underL l m)) ∧ Below w.heap.size w w' := by
  have hv' := hv
  have hu' := hu
  obtain ⟨a, cap, rfl, hcap, hmax, hz, hl⟩ := hv
  obtain ⟨b, cap', rfl, hcap', hmax', _, hm⟩ := hu
  simp only [maxLen] at hmax hmax'
  by_cases hlen : m.length ≤ l.length
  case neg =>
    have HF : Hid (underL l m = false) := decide_eq_false (fun h => hlen h.1)
    have h1 : ¬ (m.length : Int) ≤ l.length := by omega
    clear hlen hz hl hm hv' hu'
    go_enter Tryz.func47, Tryz.ntmps47
    go_wp2_with fail
    go_ret
    exact ⟨by rw [HF.out]; rfl, Below.refl _ _⟩
  have h1 : (m.length : Int) ≤ l.length := by omega
  have HU := Lib.hid (hv'.upto m.length hlen)
  have HM := Lib.hid hu'
  have HF : Hid (underL l m = decide (l.take m.length = m)) := by unfold Hid underL; simp [hlen]
  clear hl hm hv' hu'
  cases a with
  | none =>
    obtain rfl := hz rfl
    clear hz
    go_enter Tryz.func47, Tryz.ntmps47
    go_wp2_with fail
    refine (REqual_any _ _ _ _ _ HU.out HM.out).mono ?_
    rintro e w1 ⟨rfl, hb1⟩
    go_wp2_with fail
    go_ret
    exact ⟨by rw [HF.out]; rfl, hb1⟩
  | some A =>
    clear hz
    go_enter Tryz.func47, Tryz.ntmps47
    go_wp2_with fail
    refine (REqual_any _ _ _ _ _ HU.out HM.out).mono ?_
    rintro e w1 ⟨rfl, hb1⟩
    go_wp2_with fail
    go_ret
    exact ⟨by rw [HF.out]; rfl, hb1⟩
end Go.Proofs.YthdninnjjmhpfaaGreatDoor
