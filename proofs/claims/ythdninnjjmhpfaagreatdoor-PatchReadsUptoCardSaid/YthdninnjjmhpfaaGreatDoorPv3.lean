/- The packages path and datakitref08, walked: Equal, Under. Conditions: none. -/
import Derived.Test.YthdninnjjmhpfaaGreatDoorPv2
namespace Go.Proofs.YthdninnjjmhpfaaGreatDoor
open Go.RowKit
set_option maxHeartbeats 1000000
set_option maxRecDepth 100000

/-- '==' of two steps. -/
theorem eqIn_step (x0 y0 : Bool) (x1 y1 : ByteArray) (x2 y2 : Int) (w : World) :
    (Op.equalIn 10000 94 (.agg #[.bool x0, .string x1, .int .i64 x2]) (.agg #[.bool y0, .string y1, .int .i64 y2])).run Tryz.prog w = .ok (decide ((x0, x1, x2) = (y0, y1, y2))) w := by
  have u1 := Tryz.underlying4
  have a1 := Tryz.isAgg4
  have z1 := Tryz.sizeOf4
  have u2 := Tryz.underlying9
  have a2 := Tryz.isAgg9
  have z2 := Tryz.sizeOf9
  have u3 := Tryz.underlying3
  have a3 := Tryz.isAgg3
  have z3 := Tryz.sizeOf3
  have hS : Tryz.prog.underlying 94 = some (.struct (Tryz.prog.fieldsOf 94)) := by kernel_rfl
  have hp : Tryz.prog.stoodInHeld 94 = false := by kernel_rfl
  rw [show (10000 : Nat) = 9999 + 1 from rfl, run_equalIn_agg w 9999 94 _ _ hS hp]
  simp only [Program.fieldsOf, Tryz.underlying94]
  go_simp
  by_cases h0 : x0 = y0 <;> by_cases h1 : x1 = y1 <;> by_cases h2 : x2 = y2 <;> simp [h0, h1, h2, toList_L, mt (L_inj (s := x1) (t := y1))]
theorem eq_step (l m : List St) (k : Nat) (hk : k < l.length) (hk' : k < m.length) (he : l.take k = m.take k) :
    (l[k] = m[k] → l.take (k + 1) = m.take (k + 1)) ∧ (l[k] ≠ m[k] → l ≠ m) := by
  refine ⟨fun h1 => ?_, fun h1 h2 => ?_⟩
  · rw [List.take_succ_eq_append_getElem hk, List.take_succ_eq_append_getElem hk', he, h1]
  · subst h2; exact h1 rfl
theorem PEqual_any (v u : Value) (l m : List St) (w : World) (hv : Rd w v l) (hu : Rd w u m) :
    Calls Tryz.prog 85 #[v, u] w fun e w' => e = .returned (.bool (decide (l = m))) ∧ Below w.heap.size w w' := by
  obtain ⟨a, cap, rfl, hcap, hmax, _, hl⟩ := hv
  obtain ⟨b, cap', rfl, hcap', hmax', _, hm⟩ := hu
  simp only [maxLen] at hmax hmax'
  by_cases hlen : l.length = m.length
  case neg =>
    have HF : Hid (decide (l = m) = false) := decide_eq_false (fun h => hlen (by rw [h]))
    have h1 : ((l.length : Int) != m.length) = true := by rw [bne_iff_ne]; omega
    clear hlen
    go_enter Tryz.func85, Tryz.ntmps85
    go_wp2_with fail
    go_ret
    exact ⟨by rw [HF.out]; rfl, Below.refl _ _⟩
  have h1 : ((l.length : Int) != m.length) = false := by rw [bne_eq_false_iff_eq]; omega
  have HE := Lib.hid hlen; clear hlen
  have HL := Lib.hid hl; clear hl
  have HM := Lib.hid hm; clear hm
  go_enter Tryz.func85, Tryz.ntmps85
  go_wp2_with fail
  go_loopw [5, 13] (fun _ n wr => ∃ k j : Nat, k ≤ l.length ∧ n = .int .i64 k ∧ Hid (l.take k = m.take k) ∧ wr = w.drewN j) (fun _ n _ => l.length - (intOf n).toNat)
  case atStart => exact ⟨0, 0, by omega, rfl, rfl, rfl⟩
  case round =>
    obtain ⟨k, j, hk, rfl, HR, rfl⟩ := hrel
    by_cases hlt : k < l.length
    case neg =>
      have HF : Hid (decide (l = m) = true) := by
        have h := HR.out
        rw [List.take_of_length_le (by omega), List.take_of_length_le (by have := HE.out; omega)] at h
        exact decide_eq_true h
      clear HR
      go_wp2_with fail
      go_ret
      exact ⟨by rw [HF.out]; rfl, ⟨rfl, rfl, rfl, Nat.le_refl _, fun _ _ => rfl⟩⟩
    have hlm : k < m.length := by have := HE.out; omega
    obtain ⟨g, o, rfl, hg, hat⟩ := HL.out (by intro h; subst h; simp at hlt)
    obtain ⟨g', o', rfl, hg', hat'⟩ := HM.out (by intro h; subst h; simp at hlm)
    obtain ⟨c0, c1, c2⟩ := hat k hlt
    obtain ⟨d0, d1, d2⟩ := hat' k hlm
    obtain ⟨HS1, HS2⟩ := eq_step l m k hlt hlm HR.out
    replace HS1 := Lib.hid HS1
    replace HS2 := Lib.hid HS2
    clear HR hat hat'
    generalize l[k] = s at *
    generalize m[k] = t at *
    obtain ⟨x0, x1, x2⟩ := s
    obtain ⟨y0, y1, y2⟩ := t
    simp only [] at c0 c1 c2 d0 d1 d2
    by_cases he : (x0, x1, x2) = (y0, y1, y2)
    · have HF := Lib.hid (HS1.out he)
      have hq : ∀ w', (Op.equalIn 10000 94 (.agg #[.bool x0, .string x1, .int .i64 x2]) (.agg #[.bool y0, .string y1, .int .i64 y2])).run Tryz.prog w' = .ok true w' := fun w' => by rw [eqIn_step, decide_eq_true he]
      clear HS1 HS2 he
      go_wp2_with fail
      go_quiet (fail)
      go_wp2_with fail
      exact ⟨⟨k + 1, _, by omega, rfl, HF, rfl⟩, by simp [intOf]; omega⟩
    · have HF : Hid (decide (l = m) = false) := decide_eq_false (HS2.out he)
      have hq : ∀ w', (Op.equalIn 10000 94 (.agg #[.bool x0, .string x1, .int .i64 x2]) (.agg #[.bool y0, .string y1, .int .i64 y2])).run Tryz.prog w' = .ok false w' := fun w' => by rw [eqIn_step, decide_eq_false he]
      clear HS1 HS2 he
      go_wp2_with fail
      go_quiet (fail)
      go_wp2_with fail
      go_ret
      exact ⟨by rw [HF.out]; rfl, ⟨rfl, rfl, rfl, Nat.le_refl _, fun _ _ => rfl⟩⟩
theorem REqual_any (v u : Value) (l m : List St) (w : World) (hv : Rd w v l) (hu : Rd w u m) :
    Calls Tryz.prog 49 #[v, u] w fun e w' => e = .returned (.bool (decide (l = m))) ∧ Below w.heap.size w w' := by
  obtain ⟨a, cap, rfl, hcap, hmax, _, hl⟩ := hv
  obtain ⟨b, cap', rfl, hcap', hmax', _, hm⟩ := hu
  simp only [maxLen] at hmax hmax'
  by_cases hlen : l.length = m.length
  case neg =>
    have HF : Hid (decide (l = m) = false) := decide_eq_false (fun h => hlen (by rw [h]))
    have h1 : ((l.length : Int) != m.length) = true := by rw [bne_iff_ne]; omega
    clear hlen
    go_enter Tryz.func49, Tryz.ntmps49
    go_wp2_with fail
    go_ret
    exact ⟨by rw [HF.out]; rfl, Below.refl _ _⟩
  have h1 : ((l.length : Int) != m.length) = false := by rw [bne_eq_false_iff_eq]; omega
  have HE := Lib.hid hlen; clear hlen
  have HL := Lib.hid hl; clear hl
  have HM := Lib.hid hm; clear hm
  go_enter Tryz.func49, Tryz.ntmps49
  go_wp2_with fail
  go_loopw [5] (fun n wr => ∃ k j : Nat, k ≤ l.length ∧ n = .int .i64 k ∧ Hid (l.take k = m.take k) ∧ wr = w.drewN j) (fun n _ => l.length - (intOf n).toNat)
  case atStart => exact ⟨0, 0, by omega, rfl, rfl, rfl⟩
  case round =>
    obtain ⟨k, j, hk, rfl, HR, rfl⟩ := hrel
    by_cases hlt : k < l.length
    case neg =>
      have HF : Hid (decide (l = m) = true) := by
        have h := HR.out
        rw [List.take_of_length_le (by omega), List.take_of_length_le (by have := HE.out; omega)] at h
        exact decide_eq_true h
      clear HR
      go_wp2_with fail
      go_ret
      exact ⟨by rw [HF.out]; rfl, ⟨rfl, rfl, rfl, Nat.le_refl _, fun _ _ => rfl⟩⟩
    have hlm : k < m.length := by have := HE.out; omega
    obtain ⟨g, o, rfl, hg, hat⟩ := HL.out (by intro h; subst h; simp at hlt)
    obtain ⟨g', o', rfl, hg', hat'⟩ := HM.out (by intro h; subst h; simp at hlm)
    obtain ⟨c0, c1, c2⟩ := hat k hlt
    obtain ⟨d0, d1, d2⟩ := hat' k hlm
    obtain ⟨HS1, HS2⟩ := eq_step l m k hlt hlm HR.out
    replace HS1 := Lib.hid HS1
    replace HS2 := Lib.hid HS2
    clear HR hat hat'
    generalize l[k] = s at *
    generalize m[k] = t at *
    obtain ⟨x0, x1, x2⟩ := s
    obtain ⟨y0, y1, y2⟩ := t
    simp only [] at c0 c1 c2 d0 d1 d2
    by_cases he : (x0, x1, x2) = (y0, y1, y2)
    · have HF := Lib.hid (HS1.out he)
      have hq : ∀ w', (Op.equalIn 10000 94 (.agg #[.bool x0, .string x1, .int .i64 x2]) (.agg #[.bool y0, .string y1, .int .i64 y2])).run Tryz.prog w' = .ok true w' := fun w' => by rw [eqIn_step, decide_eq_true he]
      clear HS1 HS2 he
      go_wp2_with fail
      go_quiet (fail)
      go_wp2_with fail
      exact ⟨⟨k + 1, _, by omega, rfl, HF, rfl⟩, by simp [intOf]; omega⟩
    · have HF : Hid (decide (l = m) = false) := decide_eq_false (HS2.out he)
      have hq : ∀ w', (Op.equalIn 10000 94 (.agg #[.bool x0, .string x1, .int .i64 x2]) (.agg #[.bool y0, .string y1, .int .i64 y2])).run Tryz.prog w' = .ok false w' := fun w' => by rw [eqIn_step, decide_eq_false he]
      clear HS1 HS2 he
      go_wp2_with fail
      go_quiet (fail)
      go_wp2_with fail
      go_ret
      exact ⟨by rw [HF.out]; rfl, ⟨rfl, rfl, rfl, Nat.le_refl _, fun _ _ => rfl⟩⟩
end Go.Proofs.YthdninnjjmhpfaaGreatDoor
