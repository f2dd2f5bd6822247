/- The package bracelex, walked: hexadecimal digits, line ends, words. Conditions: strings of at most 2^39 bytes. -/
import Derived.Test.YtmafggfonapmpaaDoorBl2
namespace Go.Proofs.YtmafggfonapmpaaDoor
open Go.RowKit
set_option maxHeartbeats 1000000
set_option maxRecDepth 100000

theorem lineEnd_any (s : ByteArray) (w : World) (h0 : 0 < s.size) (hs : s.size ≤ maxLen) :
    Calls Tryd.prog 32 #[.string s] w fun e w' => e = .returned (.tuple #[.int .i64 (lineL (L s)).1, .int .i64 (lineL (L s)).2]) ∧ w = w' := by
  unfold maxLen at hs
  have hl : Hid (lineL (L s) = if s[0].toNat = 10 then (1, 0) else match (L s).drop 1 with | [] => (0, 4) | c :: _ => if c.toNat = 10 then (2, 0) else (0, 3)) := by
    unfold Hid; rw [L_cons0 s h0]; rfl
  by_cases h10 : s[0].toNat = 10
  · have g : ((s[0].toNat : Int) == 10) = true := by rw [beq_iff_eq]; omega
    have HL : Hid (lineL (L s) = (1, 0)) := by unfold Hid; rw [hl.out, if_pos h10]
    clear h10
    go_enter Tryd.func32, Tryd.ntmps32
    go_wp2_with fail
    go_ret2
    exact ⟨by rw [HL.out]; rfl, rfl⟩
  have g : ((s[0].toNat : Int) == 10) = false := by rw [beq_eq_false_iff_ne]; omega
  by_cases h1 : s.size = 1
  · have HL : Hid (lineL (L s) = (0, 4)) := by unfold Hid; rw [hl.out, if_neg h10, L_drop_nil s 1 (by omega)]
    have g1 : ((s.size : Int) == 1) = true := by rw [beq_iff_eq]; omega
    clear h10 h1
    go_enter Tryd.func32, Tryd.ntmps32
    go_wp2_with fail
    go_ret2
    exact ⟨by rw [HL.out]; rfl, rfl⟩
  have g1 : ((s.size : Int) == 1) = false := by rw [beq_eq_false_iff_ne]; omega
  have h2 : 1 < s.size := by omega
  have HL : Hid (lineL (L s) = if s[1].toNat = 10 then (2, 0) else (0, 3)) := by unfold Hid; rw [hl.out, if_neg h10, L_drop s 1 h2]
  by_cases h3 : s[1].toNat = 10
  · have g2 : ((s[1].toNat : Int) != 10) = false := by rw [bne_eq_false_iff_eq]; omega
    have HF : Hid (lineL (L s) = (2, 0)) := by unfold Hid; rw [HL.out, if_pos h3]
    clear h10 h1 h3
    go_enter Tryd.func32, Tryd.ntmps32
    go_wp2_with fail
    go_ret2
    exact ⟨by rw [HF.out]; rfl, rfl⟩
  · have g2 : ((s[1].toNat : Int) != 10) = true := by rw [bne_iff_ne]; omega
    have HF : Hid (lineL (L s) = (0, 3)) := by unfold Hid; rw [HL.out, if_neg h3]
    clear h10 h1 h3
    go_enter Tryd.func32, Tryd.ntmps32
    go_wp2_with fail
    go_ret2
    exact ⟨by rw [HF.out]; rfl, rfl⟩

theorem hexN_lt : ∀ (k n : Nat) (l : List UInt8), (hexN k n l).1 < (n + 1) * 16 ^ k
  | 0, n, l => by simp [hexN]
  | k + 1, n, [] => by simp only [hexN]; exact Nat.mul_pos (by omega) (Nat.pow_pos (by omega))
  | k + 1, n, b :: t => by
    unfold hexN
    cases h : hexv b with
    | none => exact Nat.mul_pos (by omega) (Nat.pow_pos (by omega))
    | some d =>
      have hd : d < 16 := by
        unfold hexv at h
        repeat' split at h
        all_goals first | (cases h; omega) | cases h
      have := hexN_lt k (16 * n + d) t
      refine Nat.lt_of_lt_of_le this ?_
      rw [Nat.pow_succ, Nat.mul_comm (16 ^ k) 16, ← Nat.mul_assoc]
      exact Nat.mul_le_mul_right _ (by omega)
theorem hex_any (s : ByteArray) (w : World) (_hs : s.size ≤ maxLen) :
    Calls Tryd.prog 52 #[.string s] w fun e w' => e = .returned (.tuple #[.int .i64 (hexN 4 0 (L s)).1, .int .i64 (hexN 4 0 (L s)).2]) ∧ w = w' := by
  unfold maxLen at _hs
  go_enter Tryd.func52, Tryd.ntmps52
  go_wp2_with fail
  go_loop [4, 5, 6, 7] (fun n _ _ i => ∃ k m : Nat, k ≤ 4 ∧ i = .int .i64 k ∧ n = .int .i64 m ∧ Hid (m < 16 ^ k) ∧ Hid (hexN 4 0 (L s) = hexN (4 - k) m ((L s).drop k))) (fun _ _ _ i => 4 - (intOf i).toNat)
  case atStart => exact ⟨0, 0, by omega, rfl, rfl, by unfold Hid; omega, rfl⟩
  case round =>
    obtain ⟨k, m, hk, rfl, rfl, hm, hx⟩ := hrel
    by_cases h4 : k < 4
    · have hm1 : m < 4096 := Nat.lt_of_lt_of_le hm.out (show 16 ^ k ≤ 16 ^ 3 from Nat.pow_le_pow_right (by omega) (by omega))
      by_cases hl : k < s.size
      · have hX : Hid (hexN 4 0 (L s) = match hexv s[k] with | some d => hexN (4 - (k + 1)) (16 * m + d) ((L s).drop (k + 1)) | none => (0, 3)) := by
          unfold Hid
          rw [hx.out, L_drop s k hl, show 4 - k = 4 - (k + 1) + 1 by omega]
          rfl
        clear hx
        have hlt := s[k].toNat_lt
        have hb : (s[k].toNat : Int) < 256 := by omega
        generalize hsk : s[k] = b at *
        cases hd : dig b
        case true =>
          have hr : 48 ≤ b.toNat ∧ b.toNat ≤ 57 := by simpa [dig] using hd
          have hr1 : ¬ (b.toNat : Int) < 48 := by omega
          have hv : hexv b = some (b.toNat - 48) := by unfold hexv; simp (disch := omega) only [if_pos]
          have hstep : Hid (16 * m + (b.toNat - 48) < 16 ^ (k + 1)) := by
            have := hm.out
            unfold Hid
            rw [Nat.pow_succ]
            omega
          have HF : Hid (hexN 4 0 (L s) = hexN (4 - (k + 1)) (16 * m + (b.toNat - 48)) ((L s).drop (k + 1))) := by unfold Hid; rw [hX.out, hv]
          clear hr
          clear hv hX
          go_wp2_with (go_at_call 16; refine (digit_any _ _).mono ?_; rintro e w' ⟨rfl, rfl⟩)
          exact ⟨⟨k + 1, 16 * m + (b.toNat - 48), by omega, rfl, by congr 1; omega, hstep, HF⟩, by simp [intOf]; omega⟩
        have hr : ¬ (48 ≤ b.toNat ∧ b.toNat ≤ 57) := by simpa [dig] using hd
        by_cases ha : 97 ≤ b.toNat ∧ b.toNat ≤ 102
        · have a1 : (97 : Int) ≤ b.toNat := by omega
          have a2 : (b.toNat : Int) ≤ 102 := by omega
          have hv : hexv b = some (b.toNat - 87) := by unfold hexv; simp (disch := omega) only [if_pos, if_neg]
          have hstep : Hid (16 * m + (b.toNat - 87) < 16 ^ (k + 1)) := by
            have := hm.out
            unfold Hid
            rw [Nat.pow_succ]
            omega
          have HF : Hid (hexN 4 0 (L s) = hexN (4 - (k + 1)) (16 * m + (b.toNat - 87)) ((L s).drop (k + 1))) := by unfold Hid; rw [hX.out, hv]
          clear hr ha
          clear hv hX
          go_wp2_with (go_at_call 16; refine (digit_any _ _).mono ?_; rintro e w' ⟨rfl, rfl⟩)
          exact ⟨⟨k + 1, 16 * m + (b.toNat - 87), by omega, rfl, by congr 1; omega, hstep, HF⟩, by simp [intOf]; omega⟩
        by_cases hA : 65 ≤ b.toNat ∧ b.toNat ≤ 70
        · have a1 : (65 : Int) ≤ b.toNat := by omega
          have a2 : (b.toNat : Int) ≤ 70 := by omega
          have hv : hexv b = some (b.toNat - 55) := by unfold hexv; simp (disch := omega) only [if_pos, if_neg]
          have hstep : Hid (16 * m + (b.toNat - 55) < 16 ^ (k + 1)) := by
            have := hm.out
            unfold Hid
            rw [Nat.pow_succ]
            omega
          have HF : Hid (hexN 4 0 (L s) = hexN (4 - (k + 1)) (16 * m + (b.toNat - 55)) ((L s).drop (k + 1))) := by unfold Hid; rw [hX.out, hv]
          clear hr ha hA
          clear hv hX
          go_wp2_with (go_at_call 16; refine (digit_any _ _).mono ?_; rintro e w' ⟨rfl, rfl⟩)
          exact ⟨⟨k + 1, 16 * m + (b.toNat - 55), by omega, rfl, by congr 1; omega, hstep, HF⟩, by simp [intOf]; omega⟩
        have hv : hexv b = none := by unfold hexv; rw [if_neg hr, if_neg ha, if_neg hA]
        have HF : Hid (hexN 4 0 (L s) = (0, 3)) := by unfold Hid; rw [hX.out, hv]
        clear hv hX
        have q1 : Hid (¬ (97 ≤ b.toNat ∧ b.toNat ≤ 102)) := ha
        have q2 : Hid (¬ (65 ≤ b.toNat ∧ b.toNat ≤ 70)) := hA
        clear ha hA hr
        go_wp2_with (go_at_call 16; refine (digit_any _ _).mono ?_; rintro e w' ⟨rfl, rfl⟩)
        all_goals
          have q1 := q1.out
          have q2 := q2.out
          first
            | (exfalso; omega)
            | (go_ret2; exact ⟨by rw [HF.out]; rfl, rfl⟩)
      · have HF : Hid (hexN 4 0 (L s) = (0, 4)) := by
          unfold Hid
          rw [hx.out, L_drop_nil s k (by omega), show 4 - k = 4 - (k + 1) + 1 by omega]
          rfl
        clear hx
        go_wp2_with fail
        go_ret2
        exact ⟨by rw [HF.out]; rfl, rfl⟩
    · obtain rfl : k = 4 := by omega
      have HF : Hid (hexN 4 0 (L s) = (m, 0)) := by unfold Hid; rw [hx.out]; rfl
      clear hx hm
      go_wp2_with fail
      go_ret2
      exact ⟨by rw [HF.out]; rfl, rfl⟩
end Go.Proofs.YtmafggfonapmpaaDoor
