/- The package datakitref19, walked: bytes, bare words, digits, escapes. Conditions: strings of at most 10^11 bytes. -/
import Derived.Test.YtmafggfonapmpaaBl6
namespace Go.Proofs.Ytmafggfonapmpaa
open Go.RowKit
set_option maxHeartbeats 1000000
set_option maxRecDepth 100000

theorem Digit3_any (c : UInt8) (w : World) :
    Calls Try.prog 54 #[.int .u8 c.toNat] w fun e w' => e = .returned (.bool (dig c)) ∧ w = w' := by
  go_enter Try.func54, Try.ntmps54
  go_wp2_with fail
  all_goals
    go_ret
    refine ⟨ret_bool ?_, rfl⟩
    rw [Bool.eq_iff_iff]; simp [dig]; omega
theorem Letter3_any (c : UInt8) (w : World) :
    Calls Try.prog 53 #[.int .u8 c.toNat] w fun e w' => e = .returned (.bool (alpha c)) ∧ w = w' := by
  go_enter Try.func53, Try.ntmps53
  go_wp2_with fail
  all_goals
    go_ret
    refine ⟨ret_bool ?_, rfl⟩
    rw [Bool.eq_iff_iff]; simp [alpha]; omega
theorem word3_any (c : UInt8) (w : World) :
    Calls Try.prog 38 #[.int .u8 c.toNat] w fun e w' => e = .returned (.bool (wordb c)) ∧ w = w' := by
  by_cases h1 : alpha c = true
  · go_enter Try.func38, Try.ntmps38
    go_wp2_with (first | ((with_reducible refine (Letter3_any _ _).mono ?_); rintro e w' ⟨rfl, rfl⟩) | ((with_reducible refine (Digit3_any _ _).mono ?_); rintro e w' ⟨rfl, rfl⟩))
    go_ret
    exact ⟨ret_bool (by simp [wordb, h1]), rfl⟩
  have h1' : alpha c = false := by simpa using h1
  clear h1
  by_cases h2 : dig c = true
  · go_enter Try.func38, Try.ntmps38
    go_wp2_with (first | ((with_reducible refine (Letter3_any _ _).mono ?_); rintro e w' ⟨rfl, rfl⟩) | ((with_reducible refine (Digit3_any _ _).mono ?_); rintro e w' ⟨rfl, rfl⟩))
    go_ret
    exact ⟨ret_bool (by simp [wordb, h2]), rfl⟩
  have h2' : dig c = false := by simpa using h2
  clear h2
  go_enter Try.func38, Try.ntmps38
  go_wp2_with (first | ((with_reducible refine (Letter3_any _ _).mono ?_); rintro e w' ⟨rfl, rfl⟩) | ((with_reducible refine (Digit3_any _ _).mono ?_); rintro e w' ⟨rfl, rfl⟩))
  all_goals
    go_ret
    refine ⟨ret_bool ?_, rfl⟩
    rw [Bool.eq_iff_iff]; simp [wordb, h1', h2'] at *; omega

theorem Bare3_any (s : ByteArray) (w : World) (hs : s.size ≤ maxLen) :
    Calls Try.prog 40 #[.string s] w fun e w' => e = .returned (.bool (bareL (L s))) ∧ w = w' := by
  unfold maxLen at hs
  go_enter Try.func40, Try.ntmps40
  go_wp2_with fail
  go_loop [3] (fun n => ∃ k : Nat, k ≤ s.size ∧ n = .int .i64 k ∧ Hid (bareL (L s) = (decide (L s ≠ []) && bareG k ((L s).drop k)))) (fun n => s.size - (intOf n).toNat)
  case atStart => exact ⟨0, by omega, rfl, by unfold Hid; rw [bareL_eq]; rfl⟩
  case round =>
    obtain ⟨k, hk, rfl, hr⟩ := hrel
    by_cases hlt : k < s.size
    · have HR : Hid (bareG k ((L s).drop k) = ((bare0 s[k] || (decide (k ≠ 0) && dig s[k])) && bareG (k + 1) ((L s).drop (k + 1)))) := by
        unfold Hid; rw [L_drop s k hlt, bareG_step]
      generalize hb : s[k] = b at *
      cases ha : alpha b
      case true =>
        have HB : Hid ((bare0 b || (decide (k ≠ 0) && dig b)) = true) := by unfold Hid; simp [bare0, ha]
        go_wp2_with (first | ((with_reducible refine (Letter3_any _ _).mono ?_); rintro e w' ⟨rfl, rfl⟩) | ((with_reducible refine (Digit3_any _ _).mono ?_); rintro e w' ⟨rfl, rfl⟩))
        exact ⟨⟨k + 1, by omega, rfl, by unfold Hid; rw [hr.out, HR.out, HB.out]; simp⟩, by simp [intOf]; omega⟩
      by_cases h95 : b.toNat = 95
      · have HB : Hid ((bare0 b || (decide (k ≠ 0) && dig b)) = true) := by unfold Hid; simp [bare0, h95]
        have e95 : ((b.toNat : Int) != 95) = false := by rw [bne_eq_false_iff_eq]; omega
        clear h95
        go_wp2_with (first | ((with_reducible refine (Letter3_any _ _).mono ?_); rintro e w' ⟨rfl, rfl⟩) | ((with_reducible refine (Digit3_any _ _).mono ?_); rintro e w' ⟨rfl, rfl⟩))
        exact ⟨⟨k + 1, by omega, rfl, by unfold Hid; rw [hr.out, HR.out, HB.out]; simp⟩, by simp [intOf]; omega⟩
      have e95 : ((b.toNat : Int) != 95) = true := by rw [bne_iff_ne]; omega
      by_cases h36 : b.toNat = 36
      · have HB : Hid ((bare0 b || (decide (k ≠ 0) && dig b)) = true) := by unfold Hid; simp [bare0, h36]
        have e36 : ((b.toNat : Int) != 36) = false := by rw [bne_eq_false_iff_eq]; omega
        clear h95 h36
        go_wp2_with (first | ((with_reducible refine (Letter3_any _ _).mono ?_); rintro e w' ⟨rfl, rfl⟩) | ((with_reducible refine (Digit3_any _ _).mono ?_); rintro e w' ⟨rfl, rfl⟩))
        exact ⟨⟨k + 1, by omega, rfl, by unfold Hid; rw [hr.out, HR.out, HB.out]; simp⟩, by simp [intOf]; omega⟩
      have e36 : ((b.toNat : Int) != 36) = true := by rw [bne_iff_ne]; omega
      have hb0 : Hid (bare0 b = false) := by unfold Hid; simp [bare0, ha, h95, h36]
      clear h95 h36
      by_cases h0 : k = 0
      · have hk0 : ((k : Int) == 0) = true := beq_iff_eq.2 (by omega)
        have HB : Hid ((bare0 b || (decide (k ≠ 0) && dig b)) = false) := by unfold Hid; rw [hb0.out]; simp [h0]
        clear h0
        go_wp2_with (first | ((with_reducible refine (Letter3_any _ _).mono ?_); rintro e w' ⟨rfl, rfl⟩) | ((with_reducible refine (Digit3_any _ _).mono ?_); rintro e w' ⟨rfl, rfl⟩))
        go_ret
        exact ⟨ret_bool (by rw [hr.out, HR.out, HB.out]; simp), rfl⟩
      have hk0 : ((k : Int) == 0) = false := beq_eq_false_iff_ne.2 (by omega)
      cases hdg : dig b
      case true =>
        have HB : Hid ((bare0 b || (decide (k ≠ 0) && dig b)) = true) := by unfold Hid; simp [h0, hdg]
        clear h0
        go_wp2_with (first | ((with_reducible refine (Letter3_any _ _).mono ?_); rintro e w' ⟨rfl, rfl⟩) | ((with_reducible refine (Digit3_any _ _).mono ?_); rintro e w' ⟨rfl, rfl⟩))
        exact ⟨⟨k + 1, by omega, rfl, by unfold Hid; rw [hr.out, HR.out, HB.out]; simp⟩, by simp [intOf]; omega⟩
      case false =>
        have HB : Hid ((bare0 b || (decide (k ≠ 0) && dig b)) = false) := by unfold Hid; rw [hb0.out, hdg]; simp
        clear h0
        go_wp2_with (first | ((with_reducible refine (Letter3_any _ _).mono ?_); rintro e w' ⟨rfl, rfl⟩) | ((with_reducible refine (Digit3_any _ _).mono ?_); rintro e w' ⟨rfl, rfl⟩))
        go_ret
        exact ⟨ret_bool (by rw [hr.out, HR.out, HB.out]; simp), rfl⟩
    · obtain rfl : k = s.size := by omega
      have HZ : Hid (bareL (L s) = !s.toList.isEmpty) := by
        unfold Hid
        rw [hr.out, L_drop_nil s _ (Nat.le_refl _), toList_L]
        cases hL : L s
        · rfl
        · unfold bareG; split <;> rfl
      clear hr
      go_wp2_with fail
      go_ret
      exact ⟨ret_bool (by rw [HZ.out]), rfl⟩

theorem run3_any (s : ByteArray) (i : Nat) (w : World) (hi : i ≤ s.size) (hs : s.size ≤ maxLen) :
    Calls Try.prog 55 #[.string s, .int .i64 i] w fun e w' => e = .returned (.int .i64 ((i + runL ((L s).drop i) : Nat) : Int)) ∧ w = w' := by
  unfold maxLen at hs
  go_enter Try.func55, Try.ntmps55
  go_wp2_with fail
  go_loop [1] (fun n => ∃ k : Nat, i ≤ k ∧ k ≤ s.size ∧ n = .int .i64 k ∧ Hid (i + runL ((L s).drop i) = k + runL ((L s).drop k))) (fun n => s.size - (intOf n).toNat)
  case atStart => exact ⟨i, Nat.le_refl _, hi, rfl, rfl⟩
  case round =>
    obtain ⟨k, hik, hk, rfl, hr⟩ := hrel
    by_cases hlt : k < s.size
    · have HR : Hid (runL ((L s).drop k) = if dig s[k] then runL ((L s).drop (k + 1)) + 1 else 0) := by
        unfold Hid; rw [L_drop s k hlt, runL]
      cases hd : dig s[k]
      · go_wp2_with (go_at_call 54; refine (Digit3_any _ _).mono ?_; rintro e w' ⟨rfl, rfl⟩)
        go_ret
        exact ⟨ret_i64 (by have := hr.out; rw [HR.out, hd, if_neg (by decide)] at this; omega), rfl⟩
      · go_wp2_with (go_at_call 54; refine (Digit3_any _ _).mono ?_; rintro e w' ⟨rfl, rfl⟩)
        exact ⟨⟨k + 1, by omega, by omega, rfl, by unfold Hid; rw [hr.out, HR.out, hd, if_pos rfl]; omega⟩, by simp [intOf]; omega⟩
    · have HZ : Hid (runL ((L s).drop k) = 0) := by unfold Hid; rw [L_drop_nil s k (by omega)]; rfl
      go_wp2_with fail
      go_ret
      exact ⟨ret_i64 (by have := hr.out; rw [HZ.out] at this; omega), rfl⟩

/-- A hexadecimal digit, or -1. -/
def hexI (b : UInt8) : Int := match hexv b with | some d => (d : Int) | none => -1
theorem Hex3_any (c : UInt8) (w : World) :
    Calls Try.prog 69 #[.int .u8 c.toNat] w fun e w' => e = .returned (.int .i64 (hexI c)) ∧ w = w' := by
  have hlt := c.toNat_lt
  have hb : (c.toNat : Int) < 256 := by omega
  cases hd : dig c
  case true =>
    have hr : 48 ≤ c.toNat ∧ c.toNat ≤ 57 := by simpa [dig] using hd
    have hr1 : ¬ (c.toNat : Int) < 48 := by omega
    have HF : Hid (hexI c = c.toNat - 48) := by unfold Hid hexI hexv; rw [if_pos hr]; simp only; omega
    clear hr
    go_enter Try.func69, Try.ntmps69
    go_wp2_with (go_at_call 54; refine (Digit3_any _ _).mono ?_; rintro e w' ⟨rfl, rfl⟩)
    go_ret
    exact ⟨ret_i64 (by rw [HF.out]), rfl⟩
  have hr : ¬ (48 ≤ c.toNat ∧ c.toNat ≤ 57) := by simpa [dig] using hd
  by_cases ha : 97 ≤ c.toNat ∧ c.toNat ≤ 102
  · have a1 : (97 : Int) ≤ c.toNat := by omega
    have a2 : (c.toNat : Int) ≤ 102 := by omega
    have HF : Hid (hexI c = c.toNat - 97 + 10) := by unfold Hid hexI hexv; rw [if_neg hr, if_pos ha]; simp only; omega
    clear hr ha
    go_enter Try.func69, Try.ntmps69
    go_wp2_with (go_at_call 54; refine (Digit3_any _ _).mono ?_; rintro e w' ⟨rfl, rfl⟩)
    go_ret
    exact ⟨ret_i64 (by rw [HF.out]), rfl⟩
  by_cases hA : 65 ≤ c.toNat ∧ c.toNat ≤ 70
  · have a1 : (65 : Int) ≤ c.toNat := by omega
    have a2 : (c.toNat : Int) ≤ 70 := by omega
    have HF : Hid (hexI c = c.toNat - 65 + 10) := by unfold Hid hexI hexv; rw [if_neg hr, if_neg ha, if_pos hA]; simp only; omega
    clear hr ha hA
    go_enter Try.func69, Try.ntmps69
    go_wp2_with (go_at_call 54; refine (Digit3_any _ _).mono ?_; rintro e w' ⟨rfl, rfl⟩)
    go_ret
    exact ⟨ret_i64 (by rw [HF.out]), rfl⟩
  have HF : Hid (hexI c = -1) := by unfold Hid hexI hexv; rw [if_neg hr, if_neg ha, if_neg hA]
  have q1 : Hid (¬ (97 ≤ c.toNat ∧ c.toNat ≤ 102)) := ha
  have q2 : Hid (¬ (65 ≤ c.toNat ∧ c.toNat ≤ 70)) := hA
  clear ha hA hr
  go_enter Try.func69, Try.ntmps69
  go_wp2_with (go_at_call 54; refine (Digit3_any _ _).mono ?_; rintro e w' ⟨rfl, rfl⟩)
  all_goals
    have q1 := q1.out
    have q2 := q2.out
    first
      | (exfalso; omega)
      | (go_ret; exact ⟨ret_i64 (by rw [HF.out]), rfl⟩)

theorem four3_any (s : ByteArray) (i : Nat) (w : World) (hi : i ≤ 200000000000) (_hs : s.size ≤ 100000000000) :
    Calls Try.prog 67 #[.string s, .int .i64 i] w fun e w' => e = .returned (.tuple #[.int .i64 (hexN 4 0 ((L s).drop i)).1, .int .i64 (hexN 4 0 ((L s).drop i)).2]) ∧ w = w' := by
  go_enter Try.func67, Try.ntmps67
  go_wp2_with fail
  go_loop [6, 7] (fun n k => ∃ j m : Nat, j ≤ 4 ∧ k = .int .i64 ((i + j : Nat) : Int) ∧ n = .int .i64 m ∧ Hid (m < 16 ^ j) ∧ Hid (hexN 4 0 ((L s).drop i) = hexN (4 - j) m ((L s).drop (i + j)))) (fun _ k => i + 4 - (intOf k).toNat)
  case atStart => exact ⟨0, 0, by omega, rfl, rfl, by unfold Hid; omega, rfl⟩
  case round =>
    obtain ⟨j, m, hj, rfl, rfl, hm, hx⟩ := hrel
    generalize hk : i + j = k at *
    by_cases h4 : j < 4
    · have q : (k : Int) < (i : Int) + 4 := by omega
      have hm1 : m < 4096 := Nat.lt_of_lt_of_le hm.out (show 16 ^ j ≤ 16 ^ 3 from Nat.pow_le_pow_right (by omega) (by omega))
      by_cases hl : k < s.size
      · have hX : Hid (hexN 4 0 ((L s).drop i) = match hexv s[k] with | some d => hexN (4 - (j + 1)) (16 * m + d) ((L s).drop (k + 1)) | none => (0, 3)) := by
          unfold Hid
          rw [hx.out, L_drop s k hl, show 4 - j = 4 - (j + 1) + 1 by omega]
          rfl
        clear hx
        have HK := Lib.hid hk; clear hk
        cases hv : hexv s[k] with
        | none =>
          have hI : hexI s[k] = -1 := by unfold hexI; rw [hv]
          have HF : Hid (hexN 4 0 ((L s).drop i) = (0, 3)) := by unfold Hid; rw [hX.out, hv]
          clear hX hv
          go_wp2_with (go_at_call 69; refine (Hex3_any _ _).mono ?_; rintro e w' ⟨rfl, rfl⟩; rw [hI])
          go_ret2
          exact ⟨by rw [HF.out]; rfl, rfl⟩
        | some d =>
          have hI : hexI s[k] = d := by unfold hexI; rw [hv]
          have hd : d < 16 := by
            have hv' := hv
            unfold hexv at hv'
            repeat' split at hv'
            all_goals first | (cases hv'; omega) | cases hv'
          have hstep : Hid (16 * m + d < 16 ^ (j + 1)) := by
            have := hm.out
            unfold Hid
            rw [Nat.pow_succ]
            omega
          have HF : Hid (hexN 4 0 ((L s).drop i) = hexN (4 - (j + 1)) (16 * m + d) ((L s).drop (k + 1))) := by unfold Hid; rw [hX.out, hv]
          clear hX hv
          go_wp2_with (go_at_call 69; refine (Hex3_any _ _).mono ?_; rintro e w' ⟨rfl, rfl⟩; rw [hI])
          have hk := HK.out
          exact ⟨⟨j + 1, 16 * m + d, by omega, by congr 1; omega, by congr 1; omega, hstep, by rw [show i + (j + 1) = k + 1 by omega]; exact HF⟩, by simp [intOf]; omega⟩
      · have HF : Hid (hexN 4 0 ((L s).drop i) = (0, 4)) := by
          unfold Hid
          rw [hx.out, L_drop_nil s k (by omega), show 4 - j = 4 - (j + 1) + 1 by omega]
          rfl
        clear hx hk
        go_wp2_with fail
        go_ret2
        exact ⟨by rw [HF.out]; rfl, rfl⟩
    · obtain rfl : j = 4 := by omega
      have q : ¬ (k : Int) < (i : Int) + 4 := by omega
      have HF : Hid (hexN 4 0 ((L s).drop i) = (m, 0)) := by unfold Hid; rw [hx.out]; rfl
      clear hx hm hk
      go_wp2_with fail
      go_ret2
      exact ⟨by rw [HF.out]; rfl, rfl⟩
end Go.Proofs.Ytmafggfonapmpaa
