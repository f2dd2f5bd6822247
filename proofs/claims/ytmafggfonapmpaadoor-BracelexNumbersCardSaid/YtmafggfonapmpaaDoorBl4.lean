/- The package bracelex, walked: words. Conditions: strings of at most 10^12 bytes. -/
import Derived.Test.YtmafggfonapmpaaDoorBl3
namespace Go.Proofs.YtmafggfonapmpaaDoor
open Go.RowKit
set_option maxHeartbeats 1000000
set_option maxRecDepth 100000

theorem wordLen_le : ∀ l : List UInt8, wordLen l ≤ l.length
  | [] => Nat.le_refl _
  | b :: t => by
    have := wordLen_le t
    unfold wordLen
    split <;> simp <;> omega
theorem ret2_nat {a b : Int} {p : Nat × Nat} (h1 : a = p.1) (h2 : b = p.2) : Ending.returned (.tuple #[.int .i64 a, .int .i64 b]) = Ending.returned (.tuple #[.int .i64 p.1, .int .i64 p.2]) := by rw [h1, h2]
theorem word_any (s : ByteArray) (w : World) (hs : s.size ≤ 100000000000) :
    Calls Tryd.prog 36 #[.string s] w fun e w' => e = .returned (.tuple #[.int .i64 (wordL (L s)).1, .int .i64 (wordL (L s)).2]) ∧ w = w' := by
  have hm : s.size ≤ maxLen := by simp only [maxLen]; omega
  go_enter Tryd.func36, Tryd.ntmps36
  go_upto_block 0 with fail
  go_cut [4] (fun v wx => v = .int .i64 (wordLen (L s)) ∧ wx = w)
  case first =>
    go_wp2_with fail
    go_loop [4] (fun n => ∃ k : Nat, k ≤ s.size ∧ n = .int .i64 k ∧ Hid (wordLen (L s) = k + wordLen ((L s).drop k))) (fun n => s.size - (intOf n).toNat)
    case atStart => exact ⟨0, by omega, rfl, by unfold Hid; simp⟩
    case round =>
      obtain ⟨k, hk, rfl, hr⟩ := hrel
      by_cases hlt : k < s.size
      · cases hw : wordb s[k]
        · have HR : Hid (wordLen (L s) = k) := by
            unfold Hid; rw [hr.out, L_drop s k hlt, wordLen, hw]; rfl
          clear hr
          go_wp2_with ((with_reducible refine (wordByte_any _ _).mono ?_); rintro e w' ⟨rfl, rfl⟩)
          go_meet
          exact ⟨by rw [HR.out], rfl⟩
        · have HR : Hid (wordLen (L s) = (k + 1) + wordLen ((L s).drop (k + 1))) := by
            unfold Hid; rw [hr.out, L_drop s k hlt, wordLen, hw, if_pos rfl]; omega
          clear hr
          go_wp2_with ((with_reducible refine (wordByte_any _ _).mono ?_); rintro e w' ⟨rfl, rfl⟩)
          exact ⟨⟨k + 1, by omega, rfl, HR⟩, by simp [intOf]; omega⟩
      · have HR : Hid (wordLen (L s) = k) := by
          unfold Hid; rw [hr.out, L_drop_nil s k (by omega)]; rfl
        clear hr
        go_wp2_with fail
        go_meet
        exact ⟨by rw [HR.out], rfl⟩
  case rest =>
    obtain ⟨rfl, rfl⟩ := hcut
    have hk := wordLen_le (L s)
    rw [L_len] at hk
    have ht : Hid (L (s.extract 0 (wordLen (L s))) = (L s).take (wordLen (L s))) := L_upto s _
    have hX : Hid (wordL (L s) = if numB ((L s).take (wordLen (L s))) || bareL ((L s).take (wordLen (L s))) then (wordLen (L s), 0) else if wordLen (L s) = s.size ∧ numB ((L s).take (wordLen (L s)) ++ [48]) then (0, 4) else (0, 3)) := by
      unfold Hid; rw [← L_len s]; rfl
    have htz : (s.extract 0 (wordLen (L s))).size ≤ s.size := by rw [ByteArray.size_extract]; omega
    have htz2 : (s.extract 0 (wordLen (L s)) ++ ⟨#[48]⟩).size ≤ s.size + 1 := by rw [ByteArray.size_append]; show _ + 1 ≤ _; omega
    have ht2 : Hid (L (s.extract 0 (wordLen (L s)) ++ ⟨#[48]⟩) = (L s).take (wordLen (L s)) ++ [48]) := by unfold Hid; rw [L_append, ht.out]; rfl
    generalize wordLen (L s) = k at *
    cases h1 : numB ((L s).take k)
    case true =>
      have HF : Hid (wordL (L s) = (k, 0)) := by unfold Hid; rw [hX.out, h1]; rfl
      have hn : numB (L (s.extract 0 k)) = true := by rw [ht.out]; exact h1
      clear hX h1
      go_wp2_with (go_at_call 11; refine (numeric_any _ _ (by omega)).mono ?_; rintro e w' ⟨rfl, rfl⟩)
      go_ret2
      exact ⟨by rw [HF.out]; rfl, rfl⟩
    have hn : numB (L (s.extract 0 k)) = false := by rw [ht.out]; exact h1
    cases h2 : bareL ((L s).take k)
    case true =>
      have HF : Hid (wordL (L s) = (k, 0)) := by unfold Hid; rw [hX.out, h1, h2]; rfl
      have hb : bareL (L (s.extract 0 k)) = true := by rw [ht.out]; exact h2
      clear hX h1 h2
      go_wp2_with (first | (go_at_call 11; refine (numeric_any _ _ (by omega)).mono ?_; rintro e w' ⟨rfl, rfl⟩) | (go_at_call 7; refine (Bare_any _ _ (by simp only [maxLen]; omega)).mono ?_; rintro e w' ⟨rfl, rfl⟩))
      go_ret2
      exact ⟨by rw [HF.out]; rfl, rfl⟩
    have hb : bareL (L (s.extract 0 k)) = false := by rw [ht.out]; exact h2
    by_cases h3 : k = s.size
    · have hks : ((k : Int) == s.size) = true := by rw [beq_iff_eq]; omega
      cases h4 : numB ((L s).take k ++ [48])
      case true =>
        have HF : Hid (wordL (L s) = (0, 4)) := by unfold Hid; rw [hX.out, h1, h2, h4, h3]; simp
        have hn2 : numB (L (s.extract 0 k ++ ⟨#[48]⟩)) = true := by rw [ht2.out]; exact h4
        clear hX h1 h2 h3 h4
        go_wp2_with (first | (go_at_call 11; refine (numeric_any _ _ (by omega)).mono ?_; rintro e w' ⟨rfl, rfl⟩) | (go_at_call 7; refine (Bare_any _ _ (by simp only [maxLen]; omega)).mono ?_; rintro e w' ⟨rfl, rfl⟩))
        go_ret2
        exact ⟨by rw [HF.out]; rfl, rfl⟩
      case false =>
        have HF : Hid (wordL (L s) = (0, 3)) := by unfold Hid; rw [hX.out, h1, h2, h4]; simp
        have hn2 : numB (L (s.extract 0 k ++ ⟨#[48]⟩)) = false := by rw [ht2.out]; exact h4
        clear hX h1 h2 h3 h4
        go_wp2_with (first | (go_at_call 11; refine (numeric_any _ _ (by omega)).mono ?_; rintro e w' ⟨rfl, rfl⟩) | (go_at_call 7; refine (Bare_any _ _ (by simp only [maxLen]; omega)).mono ?_; rintro e w' ⟨rfl, rfl⟩))
        go_ret2
        exact ⟨by rw [HF.out]; rfl, rfl⟩
    · have hks : ((k : Int) == s.size) = false := by rw [beq_eq_false_iff_ne]; omega
      have HF : Hid (wordL (L s) = (0, 3)) := by unfold Hid; rw [hX.out, h1, h2]; simp [h3]
      clear hX h1 h2 h3
      go_wp2_with (first | (go_at_call 11; refine (numeric_any _ _ (by omega)).mono ?_; rintro e w' ⟨rfl, rfl⟩) | (go_at_call 7; refine (Bare_any _ _ (by simp only [maxLen]; omega)).mono ?_; rintro e w' ⟨rfl, rfl⟩))
      go_ret2
      exact ⟨by rw [HF.out]; rfl, rfl⟩
end Go.Proofs.YtmafggfonapmpaaDoor
