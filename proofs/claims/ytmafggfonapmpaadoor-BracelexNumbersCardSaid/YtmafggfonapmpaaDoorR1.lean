/- The package datakitref19, walked: bytes, bare words, digits, escapes. Conditions: strings of at most 10^11 bytes. -/
import Derived.Test.YtmafggfonapmpaaDoorBl6
namespace Go.Proofs.YtmafggfonapmpaaDoor
open Go.RowKit
set_option maxHeartbeats 1000000
set_option maxRecDepth 100000

theorem Digit3_any (c : UInt8) (w : World) :
    Calls Tryd.prog 18 #[.int .u8 c.toNat] w fun e w' => e = .returned (.bool (dig c)) ∧ w = w' := by
  go_enter Tryd.func18, Tryd.ntmps18
  go_wp2_with fail
  all_goals
    go_ret
    refine ⟨ret_bool ?_, rfl⟩
    rw [Bool.eq_iff_iff]; simp [dig]; omega
theorem Letter3_any (c : UInt8) (w : World) :
    Calls Tryd.prog 17 #[.int .u8 c.toNat] w fun e w' => e = .returned (.bool (alpha c)) ∧ w = w' := by
  go_enter Tryd.func17, Tryd.ntmps17
  go_wp2_with fail
  all_goals
    go_ret
    refine ⟨ret_bool ?_, rfl⟩
    rw [Bool.eq_iff_iff]; simp [alpha]; omega
theorem Bare3_any (s : ByteArray) (w : World) (hs : s.size ≤ maxLen) :
    Calls Tryd.prog 8 #[.string s] w fun e w' => e = .returned (.bool (bareL (L s))) ∧ w = w' := by
  unfold maxLen at hs
  go_enter Tryd.func8, Tryd.ntmps8
  go_wp2_with fail
  go_loop [3] (fun n => ∃ k : Nat, k ≤ s.size ∧ n = .int .i64 k ∧ Hid (bareL (L s) = (decide (L s ≠ []) && bareG k ((L s).drop k)))) (fun n => s.size - (intOf n).toNat)
  case atStart => exact ⟨0, by omega, rfl, by unfold Hid; rw [bareL_eq]; rfl⟩
  case round =>
    obtain ⟨k, hk, rfl, hr⟩ := hrel
    by_cases hlt : k < s.size
    · have HR : Hid (bareG k ((L s).drop k) = ((bare0 s[k] || (decide (k ≠ 0) && dig s[k])) && bareG (k + 1) ((L s).drop (k + 1)))) := by
        unfold Hid; rw [L_drop s k hlt, bareG_step]
      generalize hb : s[k] = b at *
      cases ha : alpha b
      case true =>
        have HB : Hid ((bare0 b || (decide (k ≠ 0) && dig b)) = true) := by unfold Hid; simp [bare0, ha]
        go_wp2_with (first | ((with_reducible refine (Letter3_any _ _).mono ?_); rintro e w' ⟨rfl, rfl⟩) | ((with_reducible refine (Digit3_any _ _).mono ?_); rintro e w' ⟨rfl, rfl⟩))
        exact ⟨⟨k + 1, by omega, rfl, by unfold Hid; rw [hr.out, HR.out, HB.out]; simp⟩, by simp [intOf]; omega⟩
      by_cases h95 : b.toNat = 95
      · have HB : Hid ((bare0 b || (decide (k ≠ 0) && dig b)) = true) := by unfold Hid; simp [bare0, h95]
        have e95 : ((b.toNat : Int) != 95) = false := by rw [bne_eq_false_iff_eq]; omega
        clear h95
        go_wp2_with (first | ((with_reducible refine (Letter3_any _ _).mono ?_); rintro e w' ⟨rfl, rfl⟩) | ((with_reducible refine (Digit3_any _ _).mono ?_); rintro e w' ⟨rfl, rfl⟩))
        exact ⟨⟨k + 1, by omega, rfl, by unfold Hid; rw [hr.out, HR.out, HB.out]; simp⟩, by simp [intOf]; omega⟩
      have e95 : ((b.toNat : Int) != 95) = true := by rw [bne_iff_ne]; omega
      by_cases h36 : b.toNat = 36
      · have HB : Hid ((bare0 b || (decide (k ≠ 0) && dig b)) = true) := by unfold Hid; simp [bare0, h36]
        have e36 : ((b.toNat : Int) != 36) = false := by rw [bne_eq_false_iff_eq]; omega
        clear h95 h36
        go_wp2_with (first | ((with_reducible refine (Letter3_any _ _).mono ?_); rintro e w' ⟨rfl, rfl⟩) | ((with_reducible refine (Digit3_any _ _).mono ?_); rintro e w' ⟨rfl, rfl⟩))
        exact ⟨⟨k + 1, by omega, rfl, by unfold Hid; rw [hr.out, HR.out, HB.out]; simp⟩, by simp [intOf]; omega⟩
      have e36 : ((b.toNat : Int) != 36) = true := by rw [bne_iff_ne]; omega
      have hb0 : Hid (bare0 b = false) := by unfold Hid; simp [bare0, ha, h95, h36]
      clear h95 h36
      by_cases h0 : k = 0
      · have hk0 : ((k : Int) == 0) = true := beq_iff_eq.2 (by omega)
        have HB : Hid ((bare0 b || (decide (k ≠ 0) && dig b)) = false) := by unfold Hid; rw [hb0.out]; simp [h0]
        clear h0
        go_wp2_with (first | ((with_reducible refine (Letter3_any _ _).mono ?_); rintro e w' ⟨rfl, rfl⟩) | ((with_reducible refine (Digit3_any _ _).mono ?_); rintro e w' ⟨rfl, rfl⟩))
        go_ret
        exact ⟨ret_bool (by rw [hr.out, HR.out, HB.out]; simp), rfl⟩
      have hk0 : ((k : Int) == 0) = false := beq_eq_false_iff_ne.2 (by omega)
      cases hdg : dig b
      case true =>
        have HB : Hid ((bare0 b || (decide (k ≠ 0) && dig b)) = true) := by unfold Hid; simp [h0, hdg]
        clear h0
        go_wp2_with (first | ((with_reducible refine (Letter3_any _ _).mono ?_); rintro e w' ⟨rfl, rfl⟩) | ((with_reducible refine (Digit3_any _ _).mono ?_); rintro e w' ⟨rfl, rfl⟩))
        exact ⟨⟨k + 1, by omega, rfl, by unfold Hid; rw [hr.out, HR.out, HB.out]; simp⟩, by simp [intOf]; omega⟩
      case false =>
        have HB : Hid ((bare0 b || (decide (k ≠ 0) && dig b)) = false) := by unfold Hid; rw [hb0.out, hdg]; simp
        clear h0
        go_wp2_with (first | ((with_reducible refine (Letter3_any _ _).mono ?_); rintro e w' ⟨rfl, rfl⟩) | ((with_reducible refine (Digit3_any _ _).mono ?_); rintro e w' ⟨rfl, rfl⟩))
        go_ret
        exact ⟨ret_bool (by rw [hr.out, HR.out, HB.out]; simp), rfl⟩
    · obtain rfl : k = s.size := by omega
      have HZ : Hid (bareL (L s) = !s.toList.isEmpty) := by
        unfold Hid
        rw [hr.out, L_drop_nil s _ (Nat.le_refl _), toList_L]
        cases hL : L s
        · rfl
        · unfold bareG; split <;> rfl
      clear hr
      go_wp2_with fail
      go_ret
      exact ⟨ret_bool (by rw [HZ.out]), rfl⟩

theorem run3_any (s : ByteArray) (i : Nat) (w : World) (hi : i ≤ s.size) (hs : s.size ≤ maxLen) :
    Calls Tryd.prog 28 #[.string s, .int .i64 i] w fun e w' => e = .returned (.int .i64 ((i + runL ((L s).drop i) : Nat) : Int)) ∧ w = w' := by
  unfold maxLen at hs
  go_enter Tryd.func28, Tryd.ntmps28
  go_wp2_with fail
  go_loop [1] (fun n => ∃ k : Nat, i ≤ k ∧ k ≤ s.size ∧ n = .int .i64 k ∧ Hid (i + runL ((L s).drop i) = k + runL ((L s).drop k))) (fun n => s.size - (intOf n).toNat)
  case atStart => exact ⟨i, Nat.le_refl _, hi, rfl, rfl⟩
  case round =>
    obtain ⟨k, hik, hk, rfl, hr⟩ := hrel
    by_cases hlt : k < s.size
    · have HR : Hid (runL ((L s).drop k) = if dig s[k] then runL ((L s).drop (k + 1)) + 1 else 0) := by
        unfold Hid; rw [L_drop s k hlt, runL]
      cases hd : dig s[k]
      · go_wp2_with (go_at_call 18; refine (Digit3_any _ _).mono ?_; rintro e w' ⟨rfl, rfl⟩)
        go_ret
        exact ⟨ret_i64 (by have := hr.out; rw [HR.out, hd, if_neg (by decide)] at this; omega), rfl⟩
      · go_wp2_with (go_at_call 18; refine (Digit3_any _ _).mono ?_; rintro e w' ⟨rfl, rfl⟩)
        exact ⟨⟨k + 1, by omega, by omega, rfl, by unfold Hid; rw [hr.out, HR.out, hd, if_pos rfl]; omega⟩, by simp [intOf]; omega⟩
    · have HZ : Hid (runL ((L s).drop k) = 0) := by unfold Hid; rw [L_drop_nil s k (by omega)]; rfl
      go_wp2_with fail
      go_ret
      exact ⟨ret_i64 (by have := hr.out; rw [HZ.out] at this; omega), rfl⟩

/-- A hexadecimal digit, or -1. -/
def hexI (b : UInt8) : Int := match hexv b with | some d => (d : Int) | none => -1
end Go.Proofs.YtmafggfonapmpaaDoor
