/- The package bracelex, walked: bytes, bare words, numbers. Conditions: strings of at most 2^40 bytes. -/
import Derived.Test.YtmafggfonapmpaaDoorBlP
namespace Go.Proofs.YtmafggfonapmpaaDoor
open Go.RowKit
set_option maxHeartbeats 1000000
set_option maxRecDepth 100000

theorem ret_bool {a b : Bool} (h : a = b) : Ending.returned (.bool a) = Ending.returned (.bool b) := by rw [h]
theorem ret_i64 {a b : Int} (h : a = b) : Ending.returned (.int .i64 a) = Ending.returned (.int .i64 b) := by rw [h]
theorem digit_any (c : UInt8) (w : World) :
    Calls Tryd.prog 16 #[.int .u8 c.toNat] w fun e w' => e = .returned (.bool (dig c)) ∧ w = w' := by
  go_enter Tryd.func16, Tryd.ntmps16
  go_wp2_with fail
  all_goals
    go_ret
    refine ⟨ret_bool ?_, rfl⟩
    rw [Bool.eq_iff_iff]; simp [dig]; omega
theorem letter_any (c : UInt8) (w : World) :
    Calls Tryd.prog 15 #[.int .u8 c.toNat] w fun e w' => e = .returned (.bool (alpha c)) ∧ w = w' := by
  go_enter Tryd.func15, Tryd.ntmps15
  go_wp2_with fail
  all_goals
    go_ret
    refine ⟨ret_bool ?_, rfl⟩
    rw [Bool.eq_iff_iff]; simp [alpha]; omega
theorem wordByte_any (c : UInt8) (w : World) :
    Calls Tryd.prog 35 #[.int .u8 c.toNat] w fun e w' => e = .returned (.bool (wordb c)) ∧ w = w' := by
  by_cases h1 : alpha c = true
  · go_enter Tryd.func35, Tryd.ntmps35
    go_wp2_with (first | ((with_reducible refine (letter_any _ _).mono ?_); rintro e w' ⟨rfl, rfl⟩) | ((with_reducible refine (digit_any _ _).mono ?_); rintro e w' ⟨rfl, rfl⟩))
    go_ret
    exact ⟨ret_bool (by simp [wordb, h1]), rfl⟩
  have h1' : alpha c = false := by simpa using h1
  clear h1
  by_cases h2 : dig c = true
  · go_enter Tryd.func35, Tryd.ntmps35
    go_wp2_with (first | ((with_reducible refine (letter_any _ _).mono ?_); rintro e w' ⟨rfl, rfl⟩) | ((with_reducible refine (digit_any _ _).mono ?_); rintro e w' ⟨rfl, rfl⟩))
    go_ret
    exact ⟨ret_bool (by simp [wordb, h2]), rfl⟩
  have h2' : dig c = false := by simpa using h2
  clear h2
  go_enter Tryd.func35, Tryd.ntmps35
  go_wp2_with (first | ((with_reducible refine (letter_any _ _).mono ?_); rintro e w' ⟨rfl, rfl⟩) | ((with_reducible refine (digit_any _ _).mono ?_); rintro e w' ⟨rfl, rfl⟩))
  all_goals
    go_ret
    refine ⟨ret_bool ?_, rfl⟩
    rw [Bool.eq_iff_iff]; simp [wordb, h1', h2'] at *; omega

theorem run_any (s : ByteArray) (w : World) (hs : s.size ≤ maxLen) :
    Calls Tryd.prog 22 #[.string s] w fun e w' => e = .returned (.int .i64 (runL (L s))) ∧ w = w' := by
  unfold maxLen at hs
  go_enter Tryd.func22, Tryd.ntmps22
  go_wp2_with fail
  go_loop [3] (fun n => ∃ k : Nat, k ≤ s.size ∧ n = .int .i64 k ∧ Hid (runL (L s) = k + runL ((L s).drop k))) (fun n => s.size - (intOf n).toNat)
  case atStart => exact ⟨0, by omega, rfl, by unfold Hid; simp⟩
  case round =>
    obtain ⟨k, hk, rfl, hr⟩ := hrel
    by_cases hlt : k < s.size
    · have HR : Hid (runL ((L s).drop k) = if dig s[k] then runL ((L s).drop (k + 1)) + 1 else 0) := by
        unfold Hid; rw [L_drop s k hlt, runL]
      cases hd : dig s[k]
      · go_wp2_with ((with_reducible refine (digit_any _ _).mono ?_); rintro e w' ⟨rfl, rfl⟩)
        go_ret
        exact ⟨ret_i64 (by rw [hr.out, HR.out, hd]; rfl), rfl⟩
      · go_wp2_with ((with_reducible refine (digit_any _ _).mono ?_); rintro e w' ⟨rfl, rfl⟩)
        exact ⟨⟨k + 1, by omega, rfl, by unfold Hid; rw [hr.out, HR.out, hd, if_pos rfl]; omega⟩, by simp [intOf]; omega⟩
    · have HZ : Hid (runL ((L s).drop k) = 0) := by unfold Hid; rw [L_drop_nil s k (by omega)]; rfl
      go_wp2_with fail
      go_ret
      exact ⟨ret_i64 (by rw [hr.out, HZ.out]; rfl), rfl⟩

def bareG (k : Nat) (l : List UInt8) : Bool := if k = 0 then (match l with | [] => true | b :: t => bare0 b && t.all fun c => bare0 c || dig c) else l.all fun c => bare0 c || dig c
theorem bareG_step (k : Nat) (b : UInt8) (t : List UInt8) : bareG k (b :: t) = ((bare0 b || (decide (k ≠ 0) && dig b)) && bareG (k + 1) t) := by
  unfold bareG
  by_cases h : k = 0
  · simp [h]
  · simp [h]
theorem bareL_eq (l : List UInt8) : bareL l = (decide (l ≠ []) && bareG 0 l) := by
  cases l <;> simp [bareL, bareG]
theorem Bare_any (s : ByteArray) (w : World) (hs : s.size ≤ maxLen) :
    Calls Tryd.prog 7 #[.string s] w fun e w' => e = .returned (.bool (bareL (L s))) ∧ w = w' := by
  unfold maxLen at hs
  go_enter Tryd.func7, Tryd.ntmps7
  go_wp2_with fail
  go_loop [3, 4, 7] (fun _ _ n => ∃ k : Nat, k ≤ s.size ∧ n = .int .i64 k ∧ Hid (bareL (L s) = (decide (L s ≠ []) && bareG k ((L s).drop k)))) (fun _ _ n => s.size - (intOf n).toNat)
  case atStart => exact ⟨0, by omega, rfl, by unfold Hid; rw [bareL_eq]; rfl⟩
  case round =>
    obtain ⟨k, hk, rfl, hr⟩ := hrel
    by_cases hlt : k < s.size
    · have HR : Hid (bareG k ((L s).drop k) = ((bare0 s[k] || (decide (k ≠ 0) && dig s[k])) && bareG (k + 1) ((L s).drop (k + 1)))) := by
        unfold Hid; rw [L_drop s k hlt, bareG_step]
      generalize hb : s[k] = b at *
      cases ha : alpha b
      case true =>
        have HB : Hid ((bare0 b || (decide (k ≠ 0) && dig b)) = true) := by unfold Hid; simp [bare0, ha]
        go_wp2_with (first | ((with_reducible refine (letter_any _ _).mono ?_); rintro e w' ⟨rfl, rfl⟩) | ((with_reducible refine (digit_any _ _).mono ?_); rintro e w' ⟨rfl, rfl⟩))
        exact ⟨⟨k + 1, by omega, rfl, by unfold Hid; rw [hr.out, HR.out, HB.out]; simp⟩, by simp [intOf]; omega⟩
      by_cases h95 : b.toNat = 95
      · have HB : Hid ((bare0 b || (decide (k ≠ 0) && dig b)) = true) := by unfold Hid; simp [bare0, h95]
        have e95 : ((b.toNat : Int) != 95) = false := by rw [bne_eq_false_iff_eq]; omega
        clear h95
        go_wp2_with (first | ((with_reducible refine (letter_any _ _).mono ?_); rintro e w' ⟨rfl, rfl⟩) | ((with_reducible refine (digit_any _ _).mono ?_); rintro e w' ⟨rfl, rfl⟩))
        exact ⟨⟨k + 1, by omega, rfl, by unfold Hid; rw [hr.out, HR.out, HB.out]; simp⟩, by simp [intOf]; omega⟩
      have e95 : ((b.toNat : Int) != 95) = true := by rw [bne_iff_ne]; omega
      by_cases h36 : b.toNat = 36
      · have HB : Hid ((bare0 b || (decide (k ≠ 0) && dig b)) = true) := by unfold Hid; simp [bare0, h36]
        have e36 : ((b.toNat : Int) != 36) = false := by rw [bne_eq_false_iff_eq]; omega
        clear h95 h36
        go_wp2_with (first | ((with_reducible refine (letter_any _ _).mono ?_); rintro e w' ⟨rfl, rfl⟩) | ((with_reducible refine (digit_any _ _).mono ?_); rintro e w' ⟨rfl, rfl⟩))
        exact ⟨⟨k + 1, by omega, rfl, by unfold Hid; rw [hr.out, HR.out, HB.out]; simp⟩, by simp [intOf]; omega⟩
      have e36 : ((b.toNat : Int) != 36) = true := by rw [bne_iff_ne]; omega
      have hb0 : Hid (bare0 b = false) := by unfold Hid; simp [bare0, ha, h95, h36]
      clear h95 h36
      by_cases h0 : k = 0
      · have hk0 : ((k : Int) == 0) = true := beq_iff_eq.2 (by omega)
        have HB : Hid ((bare0 b || (decide (k ≠ 0) && dig b)) = false) := by unfold Hid; rw [hb0.out]; simp [h0]
        clear h0
        go_wp2_with (first | ((with_reducible refine (letter_any _ _).mono ?_); rintro e w' ⟨rfl, rfl⟩) | ((with_reducible refine (digit_any _ _).mono ?_); rintro e w' ⟨rfl, rfl⟩))
        go_ret
        exact ⟨ret_bool (by rw [hr.out, HR.out, HB.out]; simp), rfl⟩
      have hk0 : ((k : Int) == 0) = false := beq_eq_false_iff_ne.2 (by omega)
      cases hdg : dig b
      case true =>
        have HB : Hid ((bare0 b || (decide (k ≠ 0) && dig b)) = true) := by unfold Hid; simp [h0, hdg]
        clear h0
        go_wp2_with (first | ((with_reducible refine (letter_any _ _).mono ?_); rintro e w' ⟨rfl, rfl⟩) | ((with_reducible refine (digit_any _ _).mono ?_); rintro e w' ⟨rfl, rfl⟩))
        exact ⟨⟨k + 1, by omega, rfl, by unfold Hid; rw [hr.out, HR.out, HB.out]; simp⟩, by simp [intOf]; omega⟩
      case false =>
        have HB : Hid ((bare0 b || (decide (k ≠ 0) && dig b)) = false) := by unfold Hid; rw [hb0.out, hdg]; simp
        clear h0
        go_wp2_with (first | ((with_reducible refine (letter_any _ _).mono ?_); rintro e w' ⟨rfl, rfl⟩) | ((with_reducible refine (digit_any _ _).mono ?_); rintro e w' ⟨rfl, rfl⟩))
        go_ret
        exact ⟨ret_bool (by rw [hr.out, HR.out, HB.out]; simp), rfl⟩
    · obtain rfl : k = s.size := by omega
      have HZ : Hid (bareL (L s) = !s.toList.isEmpty) := by
        unfold Hid
        rw [hr.out, L_drop_nil s _ (Nat.le_refl _), toList_L]
        cases hL : L s
        · rfl
        · unfold bareG; split <;> rfl
      clear hr
      go_wp2_with fail
      go_ret
      exact ⟨ret_bool (by rw [HZ.out]), rfl⟩
end Go.Proofs.YtmafggfonapmpaaDoor
