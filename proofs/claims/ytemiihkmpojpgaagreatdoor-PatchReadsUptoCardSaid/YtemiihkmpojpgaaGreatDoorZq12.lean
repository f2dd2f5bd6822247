/- datakitref01.Digits, Valid, Zeros, datakitref02.Valid, datakitref05.Valid walked. Conditions: none. -/
import Derived.Test.YtemiihkmpojpgaaGreatDoorZq11
import Derived.Test.YtemiihkmpojpgaaGreatDoorZq6
import Derived.BigGuardPart
import Derived.Deep.DeepCutAuto
import Derived.Deep.CutBlock
namespace Go.Proofs.YtemiihkmpojpgaaGreatDoor
open Go.RowKit
set_option maxHeartbeats 1000000
set_option maxRecDepth 100000

theorem b8t (b : UInt8) (n : Int) (h : (b.toNat : Int) = n) : ((b.toNat : Int) == n) = true := by rw [beq_iff_eq]; exact h
theorem b8f (b : UInt8) (n : Int) (h : ¬ (b.toNat : Int) = n) : ((b.toNat : Int) == n) = false := by rw [beq_eq_false_iff_ne]; exact h
theorem b8nt (b : UInt8) (n : Int) (h : ¬ (b.toNat : Int) = n) : ((b.toNat : Int) != n) = true := by rw [bne_iff_ne]; exact h
theorem b8nf (b : UInt8) (n : Int) (h : (b.toNat : Int) = n) : ((b.toNat : Int) != n) = false := by rw [bne_eq_false_iff_eq]; exact h
theorem rb {a b : Bool} (h : a = b) : Ending.returned (.bool a) = Ending.returned (.bool b) := by rw [h]
theorem all_dropD (l : List UInt8) (k : Nat) (h : k < l.length) : (l.drop k).all dig = (dig l[k] && (l.drop (k + 1)).all dig) := by
  rw [List.drop_eq_getElem_cons h, List.all_cons]
theorem Digits1_any (s : ByteArray) (w : World) (hs : s.size ≤ 1000000000) :
    Calls Tryz.prog 74 #[.string s] w fun e w' => e = .returned (.bool ((L s).all dig)) ∧ w = w' := by
  obtain ⟨r, hr⟩ : ∃ r, r = (L s).all dig := ⟨_, rfl⟩
  rw [← hr]
  have HR := Lib.hid hr; clear hr
  go_enter Tryz.func74, Tryz.ntmps74
  go_wp2_with fail
  go_loop [3] (fun i => ∃ k : Nat, k ≤ s.size ∧ i = .int .i64 k ∧ Hid (r = ((L s).drop k).all dig)) (fun i => s.size - (intOf i).toNat)
  case atStart => exact ⟨0, Nat.zero_le _, rfl, by unfold Hid; rw [HR.out, List.drop_zero]⟩
  case round =>
    obtain ⟨k, hk, rfl, hc⟩ := hrel
    by_cases hlt : k < s.size
    case neg =>
      have HF : Hid (r = true) := by unfold Hid; rw [hc.out, List.drop_of_length_le (by rw [L_len]; omega)]; rfl
      clear hc HR
      go_wp2_with fail
      go_ret
      exact ⟨by rw [HF.out]; rfl, rfl⟩
    have HS : Hid (r = (dig s[k] && ((L s).drop (k + 1)).all dig)) := by unfold Hid; rw [hc.out, all_dropD _ _ (by rw [L_len]; exact hlt), L_get]
    by_cases h1 : (s[k].toNat : Int) < 48
    · have HF : Hid (r = false) := by unfold Hid; rw [HS.out]; simp [dig]; omega
      clear hc HR HS
      go_wp2_with fail
      go_ret
      exact ⟨by rw [HF.out]; rfl, rfl⟩
    by_cases h2 : 57 < (s[k].toNat : Int)
    · have HF : Hid (r = false) := by unfold Hid; rw [HS.out]; simp [dig]; omega
      clear hc HR HS
      go_wp2_with fail
      go_ret
      exact ⟨by rw [HF.out]; rfl, rfl⟩
    have HF : Hid (r = ((L s).drop (k + 1)).all dig) := by
      unfold Hid
      have : dig s[k] = true := decide_eq_true ⟨by omega, by omega⟩
      rw [HS.out, this, Bool.true_and]
    clear hc HR HS
    go_wp2_with fail
    exact ⟨⟨k + 1, by omega, rfl, HF⟩, by simp [intOf]; omega⟩
theorem Zeros1_any (s : ByteArray) (w : World) (hs : s.size ≤ 1000000000) :
    Calls Tryz.prog 56 #[.string s] w fun e w' => e = .returned (.int .i64 (tz (L s))) ∧ w = w' := by
  obtain ⟨r, hr⟩ : ∃ r, r = tz (L s) := ⟨_, rfl⟩
  rw [← hr]
  have HR := Lib.hid hr; clear hr
  go_enter Tryz.func56, Tryz.ntmps56
  go_wp2_with fail
  go_loop [3] (fun i => ∃ k : Nat, k ≤ s.size ∧ i = .int .i64 k ∧ Hid (r = k + tz ((L s).take (s.size - k)))) (fun i => s.size - (intOf i).toNat)
  case atStart => exact ⟨0, Nat.zero_le _, rfl, by unfold Hid; rw [HR.out, Nat.sub_zero, List.take_of_length_le (by rw [L_len]; omega), Nat.zero_add]⟩
  case round =>
    obtain ⟨k, hk, rfl, hc⟩ := hrel
    by_cases hlt : k < s.size
    case neg =>
      have HF : Hid (r = k) := by unfold Hid; rw [hc.out, show s.size - k = 0 by omega]; rfl
      clear hc HR
      go_wp2_with fail
      go_ret
      exact ⟨by rw [HF.out]; rfl, rfl⟩
    have hz : s.size - 1 - k < s.size := by omega
    have ht : (L s).take (s.size - k) = (L s).take (s.size - 1 - k) ++ [s[s.size - 1 - k]] := by
      rw [show s.size - k = (s.size - 1 - k) + 1 by omega, List.take_succ_eq_append_getElem (by rw [L_len]; exact hz)]
      rfl
    have HS := Lib.hid (hc.out.trans (by rw [ht, tz_snoc]))
    have hi0 : (0 : Int) ≤ (s.size : Int) - 1 - k := by omega
    have hi1 : (s.size : Int) - 1 - k < s.size := by omega
    have hi2 : ((s.size : Int) - 1 - k).toNat = s.size - 1 - k := by omega
    clear ht hc
    by_cases h1 : (s[s.size - 1 - k]).toNat = 48
    · have HF : Hid (r = (k + 1) + tz ((L s).take (s.size - (k + 1)))) := by
        unfold Hid
        rw [HS.out, if_pos h1, show s.size - (k + 1) = s.size - 1 - k by omega]
        omega
      have q := b8t s[s.size - 1 - k] 48 (by omega)
      clear HS h1
      go_wp2_with fail
      exact ⟨⟨k + 1, by omega, rfl, HF⟩, by simp [intOf]; omega⟩
    · have HF : Hid (r = k) := by unfold Hid; rw [HS.out, if_neg h1]; rfl
      have q := b8f s[s.size - 1 - k] 48 (by omega)
      clear HS h1
      go_wp2_with fail
      go_ret
      exact ⟨by rw [HF.out]; rfl, rfl⟩
theorem Valid1_any (s : ByteArray) (w : World) (hs : s.size ≤ 1000000000) :
    Calls Tryz.prog 55 #[.string s] w fun e w' => e = .returned (.bool (natB (L s))) ∧ w = w' := by
  have HD := Lib.hid (Digits1_any s w hs)
  obtain ⟨r, hr⟩ : ∃ r, r = natB (L s) := ⟨_, rfl⟩
  rw [← hr]
  unfold natB at hr
  rw [L_len] at hr
  have HR := Lib.hid hr; clear hr
  by_cases h0 : s.size ≤ 600
  case neg =>
    have HF : Hid (r = false) := by unfold Hid; rw [HR.out, decide_eq_false h0]; rfl
    clear HR HD
    go_enter Tryz.func55, Tryz.ntmps55
    go_wp2_with fail
    go_ret
    exact ⟨rb HF.out.symm, rfl⟩
  have h0i : (s.size : Int) ≤ 600 := by omega
  have HR2 : Hid (r = ((L s).all dig && decide ((L s).head?.map (·.toNat) ≠ some 48))) := by unfold Hid; rw [HR.out, decide_eq_true h0, Bool.true_and]
  clear HR
  cases hd : (L s).all dig with
  | false =>
    rw [hd] at HD HR2
    clear hd
    go_enter Tryz.func55, Tryz.ntmps55
    go_wp2_with fail
    refine HD.out.mono ?_
    rintro e w' ⟨rfl, rfl⟩
    go_wp2_with fail
    go_ret
    exact ⟨rb HR2.out.symm, rfl⟩
  | true =>
    rw [hd] at HD HR2
    clear hd
    by_cases h1 : s.size = 0
    · have HF : Hid (r = true) := by
        unfold Hid
        rw [HR2.out, Bool.true_and, List.length_eq_zero_iff.1 ((L_len s).trans h1)]
        rfl
      clear HR2
      go_enter Tryz.func55, Tryz.ntmps55
      go_wp2_with fail
      refine HD.out.mono ?_
      rintro e w' ⟨rfl, rfl⟩
      go_wp2_with fail
      go_ret
      exact ⟨rb HF.out.symm, rfl⟩
    · have hp : 0 < s.size := by omega
      have hL : (L s).head?.map (·.toNat) = some (s[0]'hp).toNat := by
        have := L_drop s 0 hp
        rw [List.drop_zero] at this
        rw [this]
        rfl
      rw [hL] at HR2
      have hq : ((s.size : Int) == 0) = false := by rw [beq_eq_false_iff_ne]; omega
      clear hL
      by_cases h2 : ((s[0]'hp).toNat : Int) = 48
      · have q := b8nf _ _ h2
        have HF : Hid (r = false) := by unfold Hid; rw [HR2.out, Bool.true_and, decide_eq_false (by simp; omega)]
        clear HR2 h2
        go_enter Tryz.func55, Tryz.ntmps55
        go_wp2_with fail
        refine HD.out.mono ?_
        rintro e w' ⟨rfl, rfl⟩
        go_wp2_with fail
        go_ret
        exact ⟨rb HF.out.symm, rfl⟩
      · have q := b8nt _ _ h2
        have HF : Hid (r = true) := by unfold Hid; rw [HR2.out, Bool.true_and, decide_eq_true (by simp; omega)]
        clear HR2 h2
        go_enter Tryz.func55, Tryz.ntmps55
        go_wp2_with fail
        refine HD.out.mono ?_
        rintro e w' ⟨rfl, rfl⟩
        go_wp2_with fail
        go_ret
        exact ⟨rb HF.out.symm, rfl⟩
theorem dated5_any (k : Int) (w : World) :
    Calls Tryz.prog 57 #[.int .i64 k] w fun e w' => e = .returned (.bool (decide (k = 1 ∨ k = 3 ∨ k = 4))) ∧ w = w' := by
  obtain ⟨r, hr⟩ : ∃ r, r = decide (k = 1 ∨ k = 3 ∨ k = 4) := ⟨_, rfl⟩
  rw [← hr]
  have HR := Lib.hid hr; clear hr
  go_enter Tryz.func57, Tryz.ntmps57
  go_wp2_with fail
  all_goals
    go_ret
    refine ⟨rb ?_, rfl⟩
    rw [HR.out]
    subst_vars
    first
      | (simp_all; done)
      | (simp_all; rw [Bool.eq_iff_iff]; simp)
theorem clocked5_any (k : Int) (w : World) :
    Calls Tryz.prog 58 #[.int .i64 k] w fun e w' => e = .returned (.bool (decide (k = 2 ∨ k = 3 ∨ k = 4))) ∧ w = w' := by
  obtain ⟨r, hr⟩ : ∃ r, r = decide (k = 2 ∨ k = 3 ∨ k = 4) := ⟨_, rfl⟩
  rw [← hr]
  have HR := Lib.hid hr; clear hr
  go_enter Tryz.func58, Tryz.ntmps58
  go_wp2_with fail
  all_goals
    go_ret
    refine ⟨rb ?_, rfl⟩
    rw [HR.out]
    subst_vars
    first
      | (simp_all; done)
      | (simp_all; rw [Bool.eq_iff_iff]; simp)
end Go.Proofs.YtemiihkmpojpgaaGreatDoor
