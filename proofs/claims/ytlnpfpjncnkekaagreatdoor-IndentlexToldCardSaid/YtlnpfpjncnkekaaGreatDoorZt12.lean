/- datakitref02.Parse walked. Conditions: at most 100000 bytes. -/
import Derived.Test.YtlnpfpjncnkekaaGreatDoorZt6
import Derived.Test.YtlnpfpjncnkekaaGreatDoorZt9
import Derived.BigGuardPart
import Derived.Deep.DeepCutAuto
import Derived.Deep.CutBlock
import Derived.Test.YtlnpfpjncnkekaaGreatDoorZt5
namespace Go.Proofs.YtlnpfpjncnkekaaGreatDoor
open Go.RowKit
set_option maxHeartbeats 1000000
set_option maxRecDepth 100000

/-- A natural number's digits. -/
def natB (l : List UInt8) : Bool := decide (l.length ≤ 600) && (l.all dig && decide (l.head?.map (·.toNat) ≠ some 48))
theorem b8t (b : UInt8) (n : Int) (h : (b.toNat : Int) = n) : ((b.toNat : Int) == n) = true := by rw [beq_iff_eq]; exact h
theorem b8f (b : UInt8) (n : Int) (h : ¬ (b.toNat : Int) = n) : ((b.toNat : Int) == n) = false := by rw [beq_eq_false_iff_ne]; exact h
theorem b8nt (b : UInt8) (n : Int) (h : ¬ (b.toNat : Int) = n) : ((b.toNat : Int) != n) = true := by rw [bne_iff_ne]; exact h
theorem b8nf (b : UInt8) (n : Int) (h : (b.toNat : Int) = n) : ((b.toNat : Int) != n) = false := by rw [bne_eq_false_iff_eq]; exact h
theorem rb {a b : Bool} (h : a = b) : Ending.returned (.bool a) = Ending.returned (.bool b) := by rw [h]
theorem all_dropD (l : List UInt8) (k : Nat) (h : k < l.length) : (l.drop k).all dig = (dig l[k] && (l.drop (k + 1)).all dig) := by
  rw [List.drop_eq_getElem_cons h, List.all_cons]
theorem Digits1_any (s : ByteArray) (w : World) (hs : s.size ≤ 1000000000) :
    Calls Tryz.prog 173 #[.string s] w fun e w' => e = .returned (.bool ((L s).all dig)) ∧ w = w' := by
  obtain ⟨r, hr⟩ : ∃ r, r = (L s).all dig := ⟨_, rfl⟩
  rw [← hr]
  have HR := Lib.hid hr; clear hr
  go_enter Tryz.func173, Tryz.ntmps173
  go_wp2_with fail
  go_loop [3] (fun i => ∃ k : Nat, k ≤ s.size ∧ i = .int .i64 k ∧ Hid (r = ((L s).drop k).all dig)) (fun i => s.size - (intOf i).toNat)
  case atStart => exact ⟨0, Nat.zero_le _, rfl, by unfold Hid; rw [HR.out, List.drop_zero]⟩
  case round =>
    obtain ⟨k, hk, rfl, hc⟩ := hrel
    by_cases hlt : k < s.size
    case neg =>
      have HF : Hid (r = true) := by unfold Hid; rw [hc.out, List.drop_of_length_le (by rw [L_len]; omega)]; rfl
      clear hc HR
      go_wp2_with fail
      go_ret
      exact ⟨by rw [HF.out]; rfl, rfl⟩
    have HS : Hid (r = (dig s[k] && ((L s).drop (k + 1)).all dig)) := by unfold Hid; rw [hc.out, all_dropD _ _ (by rw [L_len]; exact hlt), L_get]
    by_cases h1 : (s[k].toNat : Int) < 48
    · have HF : Hid (r = false) := by unfold Hid; rw [HS.out]; simp [dig]; omega
      clear hc HR HS
      go_wp2_with fail
      go_ret
      exact ⟨by rw [HF.out]; rfl, rfl⟩
    by_cases h2 : 57 < (s[k].toNat : Int)
    · have HF : Hid (r = false) := by unfold Hid; rw [HS.out]; simp [dig]; omega
      clear hc HR HS
      go_wp2_with fail
      go_ret
      exact ⟨by rw [HF.out]; rfl, rfl⟩
    have HF : Hid (r = ((L s).drop (k + 1)).all dig) := by
      unfold Hid
      have : dig s[k] = true := decide_eq_true ⟨by omega, by omega⟩
      rw [HS.out, this, Bool.true_and]
    clear hc HR HS
    go_wp2_with fail
    exact ⟨⟨k + 1, by omega, rfl, HF⟩, by simp [intOf]; omega⟩
theorem Zeros1_any (s : ByteArray) (w : World) (hs : s.size ≤ 1000000000) :
    Calls Tryz.prog 143 #[.string s] w fun e w' => e = .returned (.int .i64 (tz (L s))) ∧ w = w' := by
  obtain ⟨r, hr⟩ : ∃ r, r = tz (L s) := ⟨_, rfl⟩
  rw [← hr]
  have HR := Lib.hid hr; clear hr
  go_enter Tryz.func143, Tryz.ntmps143
  go_wp2_with fail
  go_loop [3] (fun i => ∃ k : Nat, k ≤ s.size ∧ i = .int .i64 k ∧ Hid (r = k + tz ((L s).take (s.size - k)))) (fun i => s.size - (intOf i).toNat)
  case atStart => exact ⟨0, Nat.zero_le _, rfl, by unfold Hid; rw [HR.out, Nat.sub_zero, List.take_of_length_le (by rw [L_len]; omega), Nat.zero_add]⟩
  case round =>
    obtain ⟨k, hk, rfl, hc⟩ := hrel
    by_cases hlt : k < s.size
    case neg =>
      have HF : Hid (r = k) := by unfold Hid; rw [hc.out, show s.size - k = 0 by omega]; rfl
      clear hc HR
      go_wp2_with fail
      go_ret
      exact ⟨by rw [HF.out]; rfl, rfl⟩
    have hz : s.size - 1 - k < s.size := by omega
    have ht : (L s).take (s.size - k) = (L s).take (s.size - 1 - k) ++ [s[s.size - 1 - k]] := by
      rw [show s.size - k = (s.size - 1 - k) + 1 by omega, List.take_succ_eq_append_getElem (by rw [L_len]; exact hz)]
      rfl
    have HS := Lib.hid (hc.out.trans (by rw [ht, tz_snoc]))
    have hi0 : (0 : Int) ≤ (s.size : Int) - 1 - k := by omega
    have hi1 : (s.size : Int) - 1 - k < s.size := by omega
    have hi2 : ((s.size : Int) - 1 - k).toNat = s.size - 1 - k := by omega
    clear ht hc
    by_cases h1 : (s[s.size - 1 - k]).toNat = 48
    · have HF : Hid (r = (k + 1) + tz ((L s).take (s.size - (k + 1)))) := by
        unfold Hid
        rw [HS.out, if_pos h1, show s.size - (k + 1) = s.size - 1 - k by omega]
        omega
      have q := b8t s[s.size - 1 - k] 48 (by omega)
      clear HS h1
      go_wp2_with fail
      exact ⟨⟨k + 1, by omega, rfl, HF⟩, by simp [intOf]; omega⟩
    · have HF : Hid (r = k) := by unfold Hid; rw [HS.out, if_neg h1]; rfl
      have q := b8f s[s.size - 1 - k] 48 (by omega)
      clear HS h1
      go_wp2_with fail
      go_ret
      exact ⟨by rw [HF.out]; rfl, rfl⟩
theorem Valid1_any (s : ByteArray) (w : World) (hs : s.size ≤ 1000000000) :
    Calls Tryz.prog 142 #[.string s] w fun e w' => e = .returned (.bool (natB (L s))) ∧ w = w' := by
  have HD := Lib.hid (Digits1_any s w hs)
  obtain ⟨r, hr⟩ : ∃ r, r = natB (L s) := ⟨_, rfl⟩
  rw [← hr]
  unfold natB at hr
  rw [L_len] at hr
  have HR := Lib.hid hr; clear hr
  by_cases h0 : s.size ≤ 600
  case neg =>
    have HF : Hid (r = false) := by unfold Hid; rw [HR.out, decide_eq_false h0]; rfl
    clear HR HD
    go_enter Tryz.func142, Tryz.ntmps142
    go_wp2_with fail
    go_ret
    exact ⟨rb HF.out.symm, rfl⟩
  have h0i : (s.size : Int) ≤ 600 := by omega
  have HR2 : Hid (r = ((L s).all dig && decide ((L s).head?.map (·.toNat) ≠ some 48))) := by unfold Hid; rw [HR.out, decide_eq_true h0, Bool.true_and]
  clear HR
  cases hd : (L s).all dig with
  | false =>
    rw [hd] at HD HR2
    clear hd
    go_enter Tryz.func142, Tryz.ntmps142
    go_wp2_with fail
    refine HD.out.mono ?_
    rintro e w' ⟨rfl, rfl⟩
    go_wp2_with fail
    go_ret
    exact ⟨rb HR2.out.symm, rfl⟩
  | true =>
    rw [hd] at HD HR2
    clear hd
    by_cases h1 : s.size = 0
    · have HF : Hid (r = true) := by
        unfold Hid
        rw [HR2.out, Bool.true_and, List.length_eq_zero_iff.1 ((L_len s).trans h1)]
        rfl
      clear HR2
      go_enter Tryz.func142, Tryz.ntmps142
      go_wp2_with fail
      refine HD.out.mono ?_
      rintro e w' ⟨rfl, rfl⟩
      go_wp2_with fail
      go_ret
      exact ⟨rb HF.out.symm, rfl⟩
    · have hp : 0 < s.size := by omega
      have hL : (L s).head?.map (·.toNat) = some (s[0]'hp).toNat := by
        have := L_drop s 0 hp
        rw [List.drop_zero] at this
        rw [this]
        rfl
      rw [hL] at HR2
      have hq : ((s.size : Int) == 0) = false := by rw [beq_eq_false_iff_ne]; omega
      clear hL
      by_cases h2 : ((s[0]'hp).toNat : Int) = 48
      · have q := b8nf _ _ h2
        have HF : Hid (r = false) := by unfold Hid; rw [HR2.out, Bool.true_and, decide_eq_false (by simp; omega)]
        clear HR2 h2
        go_enter Tryz.func142, Tryz.ntmps142
        go_wp2_with fail
        refine HD.out.mono ?_
        rintro e w' ⟨rfl, rfl⟩
        go_wp2_with fail
        go_ret
        exact ⟨rb HF.out.symm, rfl⟩
      · have q := b8nt _ _ h2
        have HF : Hid (r = true) := by unfold Hid; rw [HR2.out, Bool.true_and, decide_eq_true (by simp; omega)]
        clear HR2 h2
        go_enter Tryz.func142, Tryz.ntmps142
        go_wp2_with fail
        refine HD.out.mono ?_
        rintro e w' ⟨rfl, rfl⟩
        go_wp2_with fail
        go_ret
        exact ⟨rb HF.out.symm, rfl⟩
theorem isEm {s : ByteArray} : (s.toList.isEmpty = true ↔ L s = []) := by rw [toList_L, List.isEmpty_iff]
theorem dAll_any (s : ByteArray) (w : World) (hs : s.size ≤ 1000000000) :
    Calls Tryz.prog 145 #[.string s] w fun e w' => e = .returned (.bool ((L s).all dig)) ∧ w = w' := by
  obtain ⟨r, hr⟩ : ∃ r, r = (L s).all dig := ⟨_, rfl⟩
  rw [← hr]
  have HR := Lib.hid hr; clear hr
  go_enter Tryz.func145, Tryz.ntmps145
  go_wp2_with fail
  go_loop [3, 6] (fun _ i => ∃ k : Nat, k ≤ s.size ∧ i = .int .i64 k ∧ Hid (r = ((L s).drop k).all dig)) (fun _ i => s.size - (intOf i).toNat)
  case atStart => exact ⟨0, Nat.zero_le _, rfl, by unfold Hid; rw [HR.out, List.drop_zero]⟩
  case round =>
    obtain ⟨k, hk, rfl, hc⟩ := hrel
    by_cases hlt : k < s.size
    case neg =>
      have HF : Hid (r = true) := by unfold Hid; rw [hc.out, List.drop_of_length_le (by rw [L_len]; omega)]; rfl
      clear hc HR
      go_wp2_with fail
      go_ret
      exact ⟨by rw [HF.out]; rfl, rfl⟩
    have HS : Hid (r = (dig s[k] && ((L s).drop (k + 1)).all dig)) := by unfold Hid; rw [hc.out, all_dropD _ _ (by rw [L_len]; exact hlt), L_get]
    by_cases h1 : (s[k].toNat : Int) < 48
    · have HF : Hid (r = false) := by unfold Hid; rw [HS.out]; simp [dig]; omega
      clear hc HR HS
      go_wp2_with fail
      go_ret
      exact ⟨by rw [HF.out]; rfl, rfl⟩
    by_cases h2 : 57 < (s[k].toNat : Int)
    · have HF : Hid (r = false) := by unfold Hid; rw [HS.out]; simp [dig]; omega
      clear hc HR HS
      go_wp2_with fail
      go_ret
      exact ⟨by rw [HF.out]; rfl, rfl⟩
    have HF : Hid (r = ((L s).drop (k + 1)).all dig) := by
      unfold Hid
      have : dig s[k] = true := decide_eq_true ⟨by omega, by omega⟩
      rw [HS.out, this, Bool.true_and]
    clear hc HR HS
    go_wp2_with fail
    exact ⟨⟨k + 1, by omega, rfl, HF⟩, by simp [intOf]; omega⟩
theorem dValid_any (s : ByteArray) (w : World) (hs : s.size ≤ 1000000000) :
    Calls Tryz.prog 90 #[.string s] w fun e w' => e = .returned (.bool (natB (L s))) ∧ w = w' := by
  have HD := Lib.hid (dAll_any s w hs)
  obtain ⟨r, hr⟩ : ∃ r, r = natB (L s) := ⟨_, rfl⟩
  rw [← hr]
  unfold natB at hr
  rw [L_len] at hr
  have HR := Lib.hid hr; clear hr
  by_cases h0 : s.size ≤ 600
  case neg =>
    have HF : Hid (r = false) := by unfold Hid; rw [HR.out, decide_eq_false h0]; rfl
    have h0i : ¬ (s.size : Int) ≤ 600 := by omega
    clear HR HD h0
    go_enter Tryz.func90, Tryz.ntmps90
    go_wp2_with fail
    go_ret
    exact ⟨rb HF.out.symm, rfl⟩
  have h0i : (s.size : Int) ≤ 600 := by omega
  have HR2 : Hid (r = ((L s).all dig && decide ((L s).head?.map (·.toNat) ≠ some 48))) := by unfold Hid; rw [HR.out, decide_eq_true h0, Bool.true_and]
  clear HR
  cases hd : (L s).all dig with
  | false =>
    rw [hd] at HD HR2
    clear hd
    go_enter Tryz.func90, Tryz.ntmps90
    go_wp2_with fail
    refine HD.out.mono ?_
    rintro e w' ⟨rfl, rfl⟩
    go_wp2_with fail
    go_ret
    exact ⟨rb HR2.out.symm, rfl⟩
  | true =>
    rw [hd] at HD HR2
    clear hd
    by_cases h1 : s.size = 0
    · have HF : Hid (r = true) := by
        unfold Hid
        rw [HR2.out, Bool.true_and, List.length_eq_zero_iff.1 ((L_len s).trans h1)]
        rfl
      have hq : s.toList.isEmpty = true := isEm.2 (List.length_eq_zero_iff.1 ((L_len s).trans h1))
      clear HR2 h1
      go_enter Tryz.func90, Tryz.ntmps90
      go_wp2_with fail
      refine HD.out.mono ?_
      rintro e w' ⟨rfl, rfl⟩
      go_wp2_with fail
      go_ret
      exact ⟨rb HF.out.symm, rfl⟩
    · have hp : 0 < s.size := by omega
      have hL : (L s).head?.map (·.toNat) = some (s[0]'hp).toNat := by
        have := L_drop s 0 hp
        rw [List.drop_zero] at this
        rw [this]
        rfl
      rw [hL] at HR2
      have hq : s.toList.isEmpty = false := by
        rw [Bool.eq_false_iff]
        intro h
        have := isEm.1 h
        rw [← List.length_eq_zero_iff, L_len] at this
        omega
      clear hL
      by_cases h2 : ((s[0]'hp).toNat : Int) = 48
      · have q := b8nf _ _ h2
        have HF : Hid (r = false) := by unfold Hid; rw [HR2.out, Bool.true_and, decide_eq_false (by simp; omega)]
        clear HR2 h2
        go_enter Tryz.func90, Tryz.ntmps90
        go_wp2_with fail
        refine HD.out.mono ?_
        rintro e w' ⟨rfl, rfl⟩
        go_wp2_with fail
        go_ret
        exact ⟨rb HF.out.symm, rfl⟩
      · have q := b8nt _ _ h2
        have HF : Hid (r = true) := by unfold Hid; rw [HR2.out, Bool.true_and, decide_eq_true (by simp; omega)]
        clear HR2 h2
        go_enter Tryz.func90, Tryz.ntmps90
        go_wp2_with fail
        refine HD.out.mono ?_
        rintro e w' ⟨rfl, rfl⟩
        go_wp2_with fail
        go_ret
        exact ⟨rb HF.out.symm, rfl⟩
/-- What is left behind the zeros' removal. -/
def TrimPost (s : ByteArray) (w : World) (e : Ending) (w' : World) : Prop := ∃ t : ByteArray, e = .returned (.string t) ∧ t.size + tz (L s) = s.size ∧ L t = (L s).take t.size ∧ w = w'
theorem trimByte_any (s : ByteArray) (w : World) (hs : s.size ≤ 1000000000) :
    Calls Tryz.prog 175 #[.string s, .int .u8 48] w (TrimPost s w) := by
  go_enter Tryz.func175, Tryz.ntmps175
  go_wp2_with fail
  go_loop [0] (fun v => ∃ t : ByteArray, v = .string t ∧ t.size ≤ s.size ∧ Hid (L t = (L s).take t.size ∧ tz (L s) = (s.size - t.size) + tz (L t))) (fun v => match v with | .string t => t.size | _ => 0)
  case atStart => exact ⟨s, rfl, Nat.le_refl _, by rw [List.take_of_length_le (by rw [L_len]; exact Nat.le_refl _)], by rw [Nat.sub_self, Nat.zero_add]⟩
  case round =>
    obtain ⟨t, rfl, hts, HC⟩ := hrel
    by_cases h0 : t.size = 0
    · have HF : Hid (TrimPost s w (.returned (.string t)) w) := by
        refine ⟨t, rfl, ?_, HC.out.1, rfl⟩
        have : L t = [] := List.length_eq_zero_iff.1 ((L_len t).trans h0)
        have h := HC.out.2
        rw [this] at h
        have h3 : tz ([] : List UInt8) = 0 := rfl
        omega
      have h0i : ¬ (0 : Int) < t.size := by omega
      have h0n : ¬ 0 < t.size := by omega
      clear h0 HC
      go_wp2_with fail
      go_ret
      exact HF.out
    · have hp : t.size - 1 < t.size := by omega
      have h0i : (0 : Int) < t.size := by omega
      have h0n : 0 < t.size := by omega
      have hi0 : (0 : Int) ≤ (t.size : Int) - 1 := by omega
      have hi1 : (t.size : Int) - 1 < t.size := by omega
      have hi2 : ((t.size : Int) - 1).toNat = t.size - 1 := by omega
      have hl : L t = (L t).take (t.size - 1) ++ [t[t.size - 1]] := by
        have := L_take_succ t (t.size - 1) hp
        rw [show t.size - 1 + 1 = t.size by omega, List.take_of_length_le (by rw [L_len]; omega)] at this
        exact this
      have HT : Hid (tz (L t) = if (t[t.size - 1]).toNat = 48 then tz ((L t).take (t.size - 1)) + 1 else 0) := by
        unfold Hid
        have h2 := tz_snoc ((L t).take (t.size - 1)) t[t.size - 1]
        rw [← hl] at h2
        exact h2
      clear hl
      by_cases h1 : (t[t.size - 1]).toNat = 48
      · have hx : L (t.extract 0 (t.size - 1)) = (L t).take (t.size - 1) := L_upto t (t.size - 1)
        have hz : (t.extract 0 (t.size - 1)).size = t.size - 1 := by rw [← L_len, hx, List.length_take, L_len]; omega
        have HN : Hid (L (t.extract 0 (t.size - 1)) = (L s).take (t.extract 0 (t.size - 1)).size ∧ tz (L s) = (s.size - (t.extract 0 (t.size - 1)).size) + tz (L (t.extract 0 (t.size - 1)))) := by
          unfold Hid
          rw [hz, hx]
          refine ⟨?_, ?_⟩
          · rw [HC.out.1, List.take_take, Nat.min_eq_left (by omega)]
          · have h2 := HT.out
            rw [if_pos h1] at h2
            have h3 := HC.out.2
            omega
        have HZ := Lib.hid hz
        have q := b8t t[t.size - 1] 48 (by omega)
        clear HT HC h1 hx hz h0
        go_wp2_with fail
        exact ⟨⟨t.extract 0 (t.size - 1), rfl, by rw [HZ.out]; omega, HN⟩, by simp only []; rw [HZ.out]; omega⟩
      · have HF : Hid (TrimPost s w (.returned (.string t)) w) := by
          refine ⟨t, rfl, ?_, HC.out.1, rfl⟩
          have h2 := HT.out
          rw [if_neg h1] at h2
          have h3 := HC.out.2
          omega
        have q := b8f t[t.size - 1] 48 (by omega)
        clear HT HC h1 h0
        go_wp2_with fail
        go_ret
        exact HF.out
theorem TrimRight0_any (s : ByteArray) (w : World) (hs : s.size ≤ 1000000000) :
    Calls Tryz.prog 146 #[.string s, .string ⟨#[48]⟩] w (TrimPost s w) := by
  have HT := Lib.hid (trimByte_any s w hs)
  by_cases h0 : L s = []
  · have HF : Hid (TrimPost s w (.returned (.string s)) w) := by
      refine ⟨s, rfl, ?_, by rw [List.take_of_length_le (by rw [L_len]; exact Nat.le_refl _)], rfl⟩
      rw [h0]
      rfl
    have hq := isEm.2 h0
    clear h0 HT
    go_enter Tryz.func146, Tryz.ntmps146
    go_wp2_with fail
    go_ret
    exact HF.out
  · have hq : s.toList.isEmpty = false := by rw [Bool.eq_false_iff]; exact fun h => h0 (isEm.1 h)
    clear h0
    go_enter Tryz.func146, Tryz.ntmps146
    go_wp2_with fail
    refine HT.out.mono ?_
    rintro e w1 ⟨t, rfl, h1, h2, rfl⟩
    have HF : Hid (TrimPost s w (.returned (.string t)) w) := ⟨t, rfl, h1, h2, rfl⟩
    clear h1 h2
    go_wp2_with fail
    go_ret
    exact HF.out
end Go.Proofs.YtlnpfpjncnkekaaGreatDoor

namespace Go.Proofs.YtlnpfpjncnkekaaGreatDoor
open Go.RowKit
set_option maxHeartbeats 1000000
set_option maxRecDepth 100000

/-- What is left behind the removal of the zeros ahead. -/
def TrimLPost (s : ByteArray) (w : World) (e : Ending) (w' : World) : Prop := ∃ t : ByteArray, e = .returned (.string t) ∧ L t = zl (L s) ∧ w = w'
theorem trimLByte_any (s : ByteArray) (w : World) :
    Calls Tryz.prog 116 #[.string s, .int .u8 48] w (TrimLPost s w) := by
  go_enter Tryz.func116, Tryz.ntmps116
  go_wp2_with fail
  go_loop [0] (fun v => ∃ t : ByteArray, v = .string t ∧ t.size ≤ s.size ∧ Hid (zl (L t) = zl (L s))) (fun v => match v with | .string t => t.size | _ => 0)
  case atStart => exact ⟨s, rfl, Nat.le_refl _, rfl⟩
  case round =>
    obtain ⟨t, rfl, hts, HC⟩ := hrel
    by_cases h0 : t.size = 0
    · have HF : Hid (TrimLPost s w (.returned (.string t)) w) := by
        have : L t = [] := List.length_eq_zero_iff.1 ((L_len t).trans h0)
        refine ⟨t, rfl, ?_, rfl⟩
        rw [← HC.out, this]
        rfl
      have h0i : ¬ (0 : Int) < t.size := by omega
      have h0n : ¬ 0 < t.size := by omega
      clear h0 HC
      go_wp2_with fail
      go_ret
      exact HF.out
    · have hp : 0 < t.size := by omega
      have h0i : (0 : Int) < t.size := by omega
      have HL : Hid (L t = t[0] :: (L t).drop 1) := by have := L_drop t 0 hp; rw [List.drop_zero] at this; exact this
      by_cases h1 : (t[0]).toNat = 48
      · have hx : L (t.extract 1 t.size) = (L t).drop 1 := L_from t 1
        have hz : (t.extract 1 t.size).size = t.size - 1 := by rw [← L_len, hx, List.length_drop, L_len]
        have HN : Hid (zl (L (t.extract 1 t.size)) = zl (L s)) := by
          unfold Hid
          rw [hx, ← HC.out, HL.out]
          show _ = if _ then _ else _
          rw [if_pos h1]
          rfl
        have HZ := Lib.hid hz
        have q := b8t t[0] 48 (by omega)
        clear HL HC h1 hx hz h0
        go_wp2_with fail
        exact ⟨⟨t.extract 1 t.size, rfl, by rw [HZ.out]; omega, HN⟩, by simp only []; rw [HZ.out]; omega⟩
      · have HF : Hid (TrimLPost s w (.returned (.string t)) w) := by
          refine ⟨t, rfl, ?_, rfl⟩
          rw [← HC.out, HL.out]
          show _ = if _ then _ else _
          rw [if_neg h1]
        have q := b8f t[0] 48 (by omega)
        clear HL HC h1 h0
        go_wp2_with fail
        go_ret
        exact HF.out
theorem TrimLeft0_any (s : ByteArray) (w : World) :
    Calls Tryz.prog 71 #[.string s, .string ⟨#[48]⟩] w (TrimLPost s w) := by
  have HT := Lib.hid (trimLByte_any s w)
  by_cases h0 : L s = []
  · have HF : Hid (TrimLPost s w (.returned (.string s)) w) := by
      refine ⟨s, rfl, ?_, rfl⟩
      rw [h0]
      rfl
    have hq := isEm.2 h0
    clear h0 HT
    go_enter Tryz.func71, Tryz.ntmps71
    go_wp2_with fail
    go_ret
    exact HF.out
  · have hq : s.toList.isEmpty = false := by rw [Bool.eq_false_iff]; exact fun h => h0 (isEm.1 h)
    clear h0
    go_enter Tryz.func71, Tryz.ntmps71
    go_wp2_with fail
    refine HT.out.mono ?_
    rintro e w1 ⟨t, rfl, h1, rfl⟩
    have HF : Hid (TrimLPost s w (.returned (.string t)) w) := ⟨t, rfl, h1, rfl⟩
    clear h1
    go_wp2_with fail
    go_ret
    exact HF.out
theorem rii {a b c d : Int} (h : a = b) (h2 : c = d) : Ending.returned (.tuple #[.int .i64 a, .int .i64 c]) = Ending.returned (.tuple #[.int .i64 b, .int .i64 d]) := by rw [h, h2]
/-! Numbers out of digits. -/
theorem valL_snoc : ∀ (l : List UInt8) (a : Nat) (b : UInt8), valL a (l ++ [b]) = 10 * valL a l + (b.toNat - 48)
  | [], a, b => rfl
  | c :: t, a, b => by
    rw [List.cons_append]
    show valL (10 * a + (c.toNat - 48)) (t ++ [b]) = _
    rw [valL_snoc t _ b]
    rfl
theorem valL_lt : ∀ (l : List UInt8) (a : Nat), (∀ b ∈ l, dig b = true) → valL a l < (a + 1) * 10 ^ l.length
  | [], a, _ => by show a < (a + 1) * 1; omega
  | b :: t, a, h => by
    have hd : dig b = true := h b List.mem_cons_self
    have hd2 : b.toNat ≤ 57 := by unfold dig at hd; simp at hd; omega
    have ih := valL_lt t (10 * a + (b.toNat - 48)) (fun c hc => h c (List.mem_cons_of_mem _ hc))
    show valL (10 * a + (b.toNat - 48)) t < _
    rw [List.length_cons, Nat.pow_succ]
    refine Nat.lt_of_lt_of_le ih ?_
    calc (10 * a + (b.toNat - 48) + 1) * 10 ^ t.length ≤ ((a + 1) * 10) * 10 ^ t.length := Nat.mul_le_mul_right _ (by omega)
      _ = (a + 1) * (10 ^ t.length * 10) := by rw [Nat.mul_assoc, Nat.mul_comm 10]
theorem take_succ_L (s : ByteArray) (k : Nat) (h : k < s.size) : (L s).take (k + 1) = (L s).take k ++ [s[k]] := by
  rw [List.take_succ_eq_append_getElem (by rw [L_len]; exact h), L_get]
theorem valL_bd (s : ByteArray) (k : Nat) (hk : k ≤ s.size) (h12 : s.size ≤ 12) (h : (L s).all dig = true) : valL 0 ((L s).take k) < 1000000000000 := by
  have h1 := valL_lt ((L s).take k) 0 (fun b hb => List.all_eq_true.1 h b (List.mem_of_mem_take hb))
  have h2 : ((L s).take k).length ≤ 12 := by rw [List.length_take, L_len]; omega
  have h3 : (10 : Nat) ^ ((L s).take k).length ≤ 10 ^ 12 := Nat.pow_le_pow_right (by decide) h2
  have h4 : (10 : Nat) ^ 12 = 1000000000000 := by decide
  omega
theorem dig_at (s : ByteArray) (k : Nat) (h : k < s.size) (ha : (L s).all dig = true) : 48 ≤ (s[k]).toNat ∧ (s[k]).toNat ≤ 57 := by
  have hd : dig s[k] = true := List.all_eq_true.1 ha _ (by rw [← L_get s k h]; exact List.getElem_mem _)
  unfold dig at hd
  simp at hd
  omega
theorem dToInt_any (s : ByteArray) (w : World) (h12 : s.size ≤ 12) (hn : natB (L s) = true) :
    Calls Tryz.prog 115 #[.string s] w fun e w' => e = .returned (.tuple #[.int .i64 (valL 0 (L s)), .int .i64 0]) ∧ w = w' := by
  have ha : (L s).all dig = true := by
    unfold natB at hn
    rw [Bool.and_eq_true, Bool.and_eq_true] at hn
    exact hn.2.1
  have HV := Lib.hid (dValid_any s w (by omega))
  rw [hn] at HV
  have HA := Lib.hid ha
  clear hn ha
  go_enter Tryz.func115, Tryz.ntmps115
  go_wp2_with fail
  refine HV.out.mono ?_
  rintro e w' ⟨rfl, rfl⟩
  go_wp2_with fail
  go_loop [4, 12] (fun n v => ∃ k : Nat, v = .int .i64 k ∧ k ≤ s.size ∧ n = .int .i64 (valL 0 ((L s).take k) : Nat)) (fun _ v => s.size - (intOf v).toNat)
  case atStart => exact ⟨0, rfl, Nat.zero_le _, rfl⟩
  case round =>
    obtain ⟨k, rfl, hk, rfl⟩ := hrel
    by_cases hlt : k < s.size
    case neg =>
      have HF : Hid (valL 0 ((L s).take k) = valL 0 (L s)) := by unfold Hid; rw [List.take_of_length_le (by rw [L_len]; omega)]
      clear HA
      go_wp2_with fail
      go_ret2
      exact ⟨rii (by rw [HF.out]) rfl, rfl⟩
    have HB := Lib.hid (valL_bd s k hk h12 HA.out)
    have hbd : ((valL 0 ((L s).take k) : Nat) : Int) ≤ 1000000000000 := by have := HB.out; omega
    have HN : Hid (valL 0 ((L s).take (k + 1)) = 10 * valL 0 ((L s).take k) + ((s[k]).toNat - 48)) := by unfold Hid; rw [take_succ_L s k hlt, valL_snoc]
    obtain ⟨hd1, hd2⟩ := dig_at s k hlt HA.out
    have hd1i : (48 : Int) ≤ ((s[k]).toNat : Int) := by omega
    have hd2i : ((s[k]).toNat : Int) ≤ 57 := by omega
    clear HA
    generalize valL 0 ((L s).take k) = n at *
    go_wp2_with fail
    exact ⟨⟨k + 1, by go_num, by omega, congrArg (Value.int .i64) (by have := HN.out; omega)⟩, by simp [intOf]; omega⟩
end Go.Proofs.YtlnpfpjncnkekaaGreatDoor

namespace Go.Proofs.YtlnpfpjncnkekaaGreatDoor
open Go.RowKit
set_option maxHeartbeats 2000000
set_option maxRecDepth 100000

theorem ri {a b : Int} (h : a = b) : Ending.returned (.int .i64 a) = Ending.returned (.int .i64 b) := by rw [h]
/-- A decimal and an error as they are handed back. -/
abbrev decV (r : DecR) : Value := .tuple #[.agg #[.bool r.neg, .string ⟨r.ds.toArray⟩, .int .i64 r.e], .int .i64 (r.err : Nat)]
def DecPost (w : World) (r : DecR) (e : Ending) (w' : World) : Prop := e = .returned (decV r) ∧ Below w.heap.size w w'
theorem decPost_of {w w' : World} {r : DecR} {n : Bool} {s : ByteArray} {e q : Int} (h : r = ⟨n, L s, e, q.toNat⟩) (hq : 0 ≤ q) (hb : Below w.heap.size w w') : DecPost w r (.returned (.tuple #[.agg #[.bool n, .string s, .int .i64 e], .int .i64 q])) w' := by
  refine ⟨?_, hb⟩
  subst h
  simp only [decV, mk_L, Int.toNat_of_nonneg hq]
theorem decRun_any (s : ByteArray) (w : World) (hs : s.size ≤ 1000000000) :
    Calls Tryz.prog 69 #[.string s] w fun e w' => e = .returned (.int .i64 (runL (L s))) ∧ w = w' := by
  go_enter Tryz.func69, Tryz.ntmps69
  go_wp2_with fail
  go_loop [3] (fun n => ∃ k : Nat, k ≤ s.size ∧ n = .int .i64 k ∧ Hid (runL (L s) = k + runL ((L s).drop k))) (fun n => s.size - (intOf n).toNat)
  case atStart => exact ⟨0, by omega, rfl, by unfold Hid; simp⟩
  case round =>
    obtain ⟨k, hk, rfl, hr⟩ := hrel
    by_cases hlt : k < s.size
    · have HR : Hid (runL ((L s).drop k) = if dig s[k] then runL ((L s).drop (k + 1)) + 1 else 0) := by
        unfold Hid; rw [L_drop s k hlt, runL]
      by_cases h1 : (s[k]).toNat < 48
      · have hd : dig s[k] = false := by unfold dig; simp; omega
        have HF : Hid (runL (L s) = k) := by unfold Hid; rw [hr.out, HR.out, hd]; rfl
        have h1i : ¬ (48 : Int) ≤ ((s[k]).toNat : Int) := by omega
        clear HR hr hd h1
        go_wp2_with fail
        go_ret
        exact ⟨ri (by rw [HF.out]), rfl⟩
      by_cases h2 : 57 < (s[k]).toNat
      · have hd : dig s[k] = false := by unfold dig; simp; omega
        have HF : Hid (runL (L s) = k) := by unfold Hid; rw [hr.out, HR.out, hd]; rfl
        have h1i : (48 : Int) ≤ ((s[k]).toNat : Int) := by omega
        have h2i : ¬ ((s[k]).toNat : Int) ≤ 57 := by omega
        clear HR hr hd h1 h2
        go_wp2_with fail
        go_ret
        exact ⟨ri (by rw [HF.out]), rfl⟩
      · have hd : dig s[k] = true := by unfold dig; simp; omega
        have HF : Hid (runL (L s) = k + 1 + runL ((L s).drop (k + 1))) := by unfold Hid; rw [hr.out, HR.out, hd, if_pos rfl]; omega
        have h1i : (48 : Int) ≤ ((s[k]).toNat : Int) := by omega
        have h2i : ((s[k]).toNat : Int) ≤ 57 := by omega
        clear HR hr hd h1 h2
        go_wp2_with fail
        exact ⟨⟨k + 1, by omega, by go_num, HF⟩, by simp [intOf]; omega⟩
    · have HZ : Hid (runL ((L s).drop k) = 0) := by unfold Hid; rw [L_drop_nil s k (by omega)]; rfl
      have HF : Hid (runL (L s) = k) := by unfold Hid; rw [hr.out, HZ.out]; rfl
      clear HZ hr
      go_wp2_with fail
      go_ret
      exact ⟨ri (by rw [HF.out]), rfl⟩
theorem norm_any (ng : Bool) (s : ByteArray) (x : Int) (w : World) (hs : s.size ≤ 1000000000) (hx1 : -3000000000000 ≤ x) (hx2 : x ≤ 3000000000000) :
    Calls Tryz.prog 120 #[.bool ng, .string s, .int .i64 x] w (DecPost w (normS ng (L s) x)) := by
  have hbw : ∀ X, Below w.heap.size w (w.alloc X) := fun X => (Below.refl _ _).alloc (Nat.le_refl _) _
  have HB := Lib.hid hbw; clear hbw
  have HT := Lib.hid (fun w => TrimRight0_any s w hs)
  by_cases h0 : L s = []
  · have HF : Hid (∀ w', Below w.heap.size w w' → DecPost w (normS ng (L s) x) (.returned (.tuple #[.agg #[.bool false, .string ⟨#[]⟩, .int .i64 0], .int .i64 0])) w') := fun w' hb => decPost_of (by unfold normS; rw [if_pos h0]; rfl) (by decide) hb
    have hq := isEm.2 h0
    clear h0 HT
    go_enter Tryz.func120, Tryz.ntmps120
    go_wp2_with fail
    exact bodyPost_ret (v := .tuple #[.agg #[.bool false, .string ⟨#[]⟩, .int .i64 0], .int .i64 0]) (by simp [results, Tryz.results120, go_sem]) rfl (HF.out _ (HB.out _))
  have hq : s.toList.isEmpty = false := by rw [Bool.eq_false_iff]; exact fun h => h0 (isEm.1 h)
  have HR : Hid (normS ng (L s) x = if 400 < x + tz (L s) ∨ x + tz (L s) < -400 ∨ 120 < (L s).length - tz (L s) then badR 2 else ⟨ng, (L s).take ((L s).length - tz (L s)), x + tz (L s), 0⟩) := by unfold Hid normS; rw [if_neg h0]
  clear h0
  obtain ⟨r, hr⟩ : ∃ r, r = normS ng (L s) x := ⟨_, rfl⟩
  rw [← hr] at HR ⊢
  clear hr
  go_enter Tryz.func120, Tryz.ntmps120
  go_wp2_with fail
  refine (HT.out _).mono ?_
  rintro e w1 ⟨t, rfl, h1, h2, rfl⟩
  have htz := tz_le (L s)
  rw [L_len] at htz
  obtain ⟨z, hz⟩ : ∃ z, z = tz (L s) := ⟨_, rfl⟩
  rw [← hz] at HR h1 htz
  clear hz HT
  have hU : s.extract 0 t.size = t := L_inj (by rw [L_extract, List.drop_zero, Nat.sub_zero, ← h2])
  have HR2 : Hid (r = if 400 < x + z ∨ x + z < -400 ∨ 120 < t.size then badR 2 else ⟨ng, L t, x + z, 0⟩) := by
    have : (L s).length - z = t.size := by rw [L_len]; omega
    unfold Hid
    rw [HR.out, this, ← h2]
  have e1 : (s.size : Int) - (t.size : Int) = (z : Int) := by omega
  have e2 : (s.size : Int) - (z : Int) = (t.size : Int) := by omega
  have hts : t.size ≤ s.size := by omega
  have hzs : z ≤ 1000000000 := by omega
  clear HR h2 h1 htz
  by_cases c1 : 400 - (z : Int) < x
  · have HF : Hid (∀ w', Below w.heap.size w w' → DecPost w r (.returned (.tuple #[.agg #[.bool false, .string ⟨#[]⟩, .int .i64 0], .int .i64 2])) w') := fun w' hb => decPost_of (by rw [HR2.out, if_pos (.inl (by omega))]; rfl) (by decide) hb
    clear HR2
    go_wp2_with fail
    exact bodyPost_ret (v := .tuple #[.agg #[.bool false, .string ⟨#[]⟩, .int .i64 0], .int .i64 2]) (by simp [results, Tryz.results120, go_sem]) rfl (HF.out _ (HB.out _))
  have c1f : ((400 : Int) - (z : Int) < x) = False := eq_false c1
  by_cases c2 : x < -400 - (z : Int)
  · have HF : Hid (∀ w', Below w.heap.size w w' → DecPost w r (.returned (.tuple #[.agg #[.bool false, .string ⟨#[]⟩, .int .i64 0], .int .i64 2])) w') := fun w' hb => decPost_of (by rw [HR2.out, if_pos (.inr (.inl (by omega)))]; rfl) (by decide) hb
    clear HR2
    go_wp2_with fail
    exact bodyPost_ret (v := .tuple #[.agg #[.bool false, .string ⟨#[]⟩, .int .i64 0], .int .i64 2]) (by simp [results, Tryz.results120, go_sem]) rfl (HF.out _ (HB.out _))
  have c2f : (x < -400 - (z : Int)) = False := eq_false c2
  by_cases c3 : 120 < t.size
  · have HF : Hid (∀ w', Below w.heap.size w w' → DecPost w r (.returned (.tuple #[.agg #[.bool false, .string ⟨#[]⟩, .int .i64 0], .int .i64 2])) w') := fun w' hb => decPost_of (by rw [HR2.out, if_pos (.inr (.inr c3))]; rfl) (by decide) hb
    have c3i : (120 : Int) < t.size := by omega
    clear HR2 c3 c1 c2
    go_wp2_with fail
    exact bodyPost_ret (v := .tuple #[.agg #[.bool false, .string ⟨#[]⟩, .int .i64 0], .int .i64 2]) (by simp [results, Tryz.results120, go_sem]) rfl (HF.out _ (HB.out _))
  · have HF : Hid (∀ w', Below w.heap.size w w' → DecPost w r (.returned (.tuple #[.agg #[.bool ng, .string t, .int .i64 (x + z)], .int .i64 0])) w') := fun w' hb => decPost_of (by rw [HR2.out, if_neg (by omega)]; rfl) (by decide) hb
    have c3i : ((120 : Int) < t.size) = False := eq_false (by omega)
    clear HR2 c3 c1 c2
    go_wp2_with fail
    exact bodyPost_ret (v := .tuple #[.agg #[.bool ng, .string t, .int .i64 (x + z)], .int .i64 0]) (by simp [results, Tryz.results120, go_sem]) rfl (HF.out _ (HB.out _))
theorem moved_any (x : Int) (less : Bool) (t : ByteArray) (u : List UInt8) (w : World) (hx1 : -100000 ≤ x) (hx2 : x ≤ 0) (ht : t.size ≤ 1000000000) (hu : L t = zl u) (hn : t.size ≤ 12 → natB (L t) = true) :
    Calls Tryz.prog 70 #[.int .i64 x, .bool less, .string t] w fun e w' => e = .returned (.int .i64 (movE x less (numP u))) ∧ w = w' := by
  have HN : Hid (numP u = if t.size ≤ 12 then (valL 0 (L t) : Int) else 1099511627776) := by unfold Hid numP; rw [← hu, L_len]
  by_cases h12 : t.size ≤ 12
  · have HV := Lib.hid (dToInt_any t w h12 (hn h12))
    have hb := valL_bd t t.size (Nat.le_refl _) h12 (by
      have := hn h12
      unfold natB at this
      rw [Bool.and_eq_true, Bool.and_eq_true] at this
      exact this.2.1)
    rw [List.take_of_length_le (by rw [L_len]; exact Nat.le_refl _)] at hb
    rw [if_pos h12] at HN
    generalize valL 0 (L t) = n at *
    have hbi : (n : Int) ≤ 1000000000000 := by omega
    have HF : Hid (movE x less (numP u) = if less then x - n else x + n) := by unfold Hid movE; rw [HN.out]
    generalize movE x less (numP u) = r at *
    clear HN hn hu hb
    cases less
    all_goals
      go_enter Tryz.func70, Tryz.ntmps70
      go_wp2_with fail
      refine HV.out.mono ?_
      rintro e w' ⟨rfl, rfl⟩
      go_wp2_with fail
      go_ret
      exact ⟨ri (by rw [HF.out]; rfl), rfl⟩
  · rw [if_neg h12] at HN
    have HF : Hid (movE x less (numP u) = if less then x - 1099511627776 else x + 1099511627776) := by unfold Hid movE; rw [HN.out]
    generalize movE x less (numP u) = r at *
    have h12i : ¬ (t.size : Int) ≤ 12 := by omega
    clear HN hn hu h12
    cases less
    all_goals
      go_enter Tryz.func70, Tryz.ntmps70
      go_wp2_with fail
      go_ret
      exact ⟨ri (by rw [HF.out]; rfl), rfl⟩
end Go.Proofs.YtlnpfpjncnkekaaGreatDoor

namespace Go.Proofs.YtlnpfpjncnkekaaGreatDoor
open Go.RowKit
set_option maxHeartbeats 4000000
set_option maxRecDepth 100000

theorem box3 {w : World} {g : Nat} {t : TypeId} {a0 a1 a2 : Value} (h : w.heap[g]? = some (.cells #[a0, a1, a2] t (0, 0))) :
    (w.cell? ⟨g, 0, none⟩ = some a0 ∧ w.cell? ⟨g, 1, none⟩ = some a1 ∧ w.cell? ⟨g, 2, none⟩ = some a2) ∧ ∀ j, w.frozen? ⟨g, j, none⟩ = false :=
  ⟨⟨(cell_of_row w g 0 _ _ (0, 0) h).trans rfl, (cell_of_row w g 1 _ _ (0, 0) h).trans rfl, (cell_of_row w g 2 _ _ (0, 0) h).trans rfl⟩, fun j => by simp [World.frozen?, h]⟩
theorem Make_any (ng : Bool) (s : ByteArray) (x : Int) (w : World) (hs : s.size ≤ 1000000000) (hx1 : -3000000000000 ≤ x) (hx2 : x ≤ 3000000000000) (ha : (L s).all dig = true) :
    Calls Tryz.prog 72 #[.bool ng, .string s, .int .i64 x] w (DecPost w (normL ng (L s) x)) := by
  have HA := Lib.hid ha
  have HT := Lib.hid (fun w => TrimLeft0_any s w)
  have HNM : Hid (∀ (t : ByteArray) w', t.size ≤ s.size → L t = zl (L s) → Calls Tryz.prog 120 #[.bool ng, .string t, .int .i64 x] w' (DecPost w' (normL ng (L s) x))) := fun t w' ht he => by
    have := norm_any ng t x w' (by omega) hx1 hx2
    rw [he] at this
    exact this
  generalize normL ng (L s) x = r at *
  clear ha
  go_enter Tryz.func72, Tryz.ntmps72
  go_wp2_with fail
  go_loop [8, 11] (fun _ v => ∃ k : Nat, v = .int .i64 k ∧ k ≤ s.size) (fun _ v => s.size - (intOf v).toNat)
  case atStart => exact ⟨0, rfl, Nat.zero_le _⟩
  case round =>
    obtain ⟨k, rfl, hk⟩ := hrel
    by_cases hlt : k < s.size
    · obtain ⟨hd1, hd2⟩ := dig_at s k hlt HA.out
      have hd1i : ¬ ((s[k]).toNat : Int) < 48 := by omega
      have hd2i : ¬ (57 : Int) < ((s[k]).toNat : Int) := by omega
      clear hd1 hd2
      go_wp2_with fail
      exact ⟨⟨k + 1, by go_num, by omega⟩, by simp [intOf]; omega⟩
    · clear HA
      go_wp2_with fail
      refine (HT.out _).mono ?_
      rintro e w1 ⟨t, rfl, ht, rfl⟩
      have hts : t.size ≤ s.size := by have := zl_le (L s); rw [← ht, L_len, L_len] at this; exact this
      have HN := Lib.hid (fun w' => HNM.out t w' hts ht)
      clear hts ht HT HNM
      go_wp2_with fail
      refine (HN.out _).mono ?_
      rintro e w2 ⟨rfl, hb⟩
      have HB := Lib.hid (((Below.refl _ w).alloc (Nat.le_refl _) _).trans (hb.mono (by simp)))
      have hx0 := (hb.block w.heap.size (by simp)).trans (heap_alloc_new w _)
      obtain ⟨⟨y0, y1, y2⟩, yf⟩ := box3 hx0
      obtain ⟨rn, rs, re, rr⟩ := r
      clear hx0 hb HN
      go_wp2_with fail
      refine bodyPost_ret (v := decV ⟨rn, rs, re, rr⟩) (by simp [results, Tryz.results72, go_sem, y0, y1, y2]) rfl ⟨rfl, ?_⟩
      repeat refine Below.setCell ?_ (by dsimp only; omega) _
      exact HB.out
/-- A string of bytes. -/
def StrIs (v : Value) (l : List UInt8) : Prop := ∃ u : ByteArray, v = .string u ∧ L u = l
theorem pre_one {s : ByteArray} {c : UInt8} (h : pre (L s) [c] = true) : 1 ≤ s.size := by
  have h1 : (L s).take 1 = [c] := by simpa [pre] using h
  have := congrArg List.length h1
  rw [List.length_take, L_len] at this
  simp at this
  omega
theorem sz_of {u : ByteArray} {l : List UInt8} (h : L u = l) : u.size = l.length := by rw [← h, L_len]
/-- Behind the fraction: what is left, the digits, the exponent. -/
def FracRel (r : DecR) (ng : Bool) (v0 v6 v7 : Value) : Prop := ∃ (u a : ByteArray) (x : Int), v0 = .string u ∧ v6 = .string a ∧ v7 = .int .i64 x ∧ u.size ≤ 100000 ∧ a.size ≤ 200000 ∧ -100000 ≤ x ∧ x ≤ 0 ∧ (L a).all dig = true ∧ r = expoP numP ng (L a) x (L u)
/-- Behind the exponent. -/
def ExpRel (r : DecR) (ng : Bool) (a : ByteArray) (v7 : Value) : Prop := ∃ x : Int, v7 = .int .i64 x ∧ -3000000000000 ≤ x ∧ x ≤ 3000000000000 ∧ r = normL ng (L a) x
theorem Parse_any (s : ByteArray) (w : World) (hs : s.size ≤ 100000) :
    Calls Tryz.prog 28 #[.string s] w (DecPost w (decP numP (L s))) := by
  obtain ⟨r, hr⟩ : ∃ r, r = decP numP (L s) := ⟨_, rfl⟩
  rw [← hr]
  have HPR : Hid (∀ (u : ByteArray) (c : UInt8) w', u.size ≤ 100000 → Calls Tryz.prog 32 #[.string u, .string ⟨#[c]⟩] w' fun e w2 => e = .returned (.bool (pre (L u) [c])) ∧ w' = w2) := fun u c w' hu => HasPrefix_any u ⟨#[c]⟩ w' (by unfold maxLen; omega) (by show 1 ≤ maxLen; unfold maxLen; omega)
  have HRUN : Hid (∀ (u : ByteArray) w', u.size ≤ 100000 → Calls Tryz.prog 69 #[.string u] w' fun e w2 => e = .returned (.int .i64 (runL (L u))) ∧ w' = w2) := fun u w' hu => decRun_any u w' (by omega)
  have HB : Hid (∀ X, Below w.heap.size w (w.alloc X)) := fun X => (Below.refl _ _).alloc (Nat.le_refl _) _
  unfold decP at hr
  have hp1 := fun h => pre_one (s := s) (c := 45) h
  have HP0 := HPR.out s 45 (w.alloc (.cells #[.bool false, .string ⟨#[]⟩, .int .i64 0] 23)) hs
  obtain ⟨ng, hng⟩ : ∃ ng, ng = pre (L s) [45] := ⟨_, rfl⟩
  rw [← hng] at hr hp1 HP0
  clear hng
  have HP := Lib.hid HP0
  clear HP0
  obtain ⟨l1, hl1⟩ : ∃ l1, l1 = if ng then (L s).drop 1 else L s := ⟨_, rfl⟩
  rw [← hl1] at hr
  have HR := Lib.hid hr
  have HL1 := Lib.hid hl1
  have hl1s : l1.length ≤ 100000 := by have := L_len s; rw [hl1]; split <;> (first | (rw [List.length_drop]; omega) | omega)
  clear hr hl1
  go_enter Tryz.func28, Tryz.ntmps28
  go_wp2_with fail
  refine HP.out.mono ?_
  rintro e w' ⟨rfl, rfl⟩
  go_upto_if 11 with fail
  go_cut [0] (fun v wx => StrIs v l1 ∧ w.alloc (.cells #[.bool false, .string ⟨#[]⟩, .int .i64 0] 23) = wx)
  case first =>
    cases ng with
    | true =>
      have h1 := hp1 rfl
      have h1i : (1 : Int) ≤ s.size := by omega
      have HX : Hid (L (s.extract 1 s.size) = l1) := by unfold Hid; rw [HL1.out, L_from]; rfl
      clear hp1
      go_wp2_with fail
      go_meet
      exact ⟨⟨_, rfl, HX.out⟩, rfl⟩
    | false =>
      have HX : Hid (L s = l1) := HL1.out.symm
      clear hp1
      go_wp2_with fail
      go_meet
      exact ⟨⟨_, rfl, HX.out⟩, rfl⟩
  case rest =>
  obtain ⟨⟨u, rfl, hu⟩, rfl⟩ := hcut
  subst hu
  clear HL1 HP hp1
  have hus : u.size ≤ 100000 := by rw [L_len] at hl1s; exact hl1s
  have HR0 := Lib.hid (HRUN.out u (w.alloc (.cells #[.bool false, .string ⟨#[]⟩, .int .i64 0] 23)) hus)
  have hrl := runL_le (L u)
  rw [L_len] at hrl
  clear hl1s
  go_wp2_with fail
  refine HR0.out.mono ?_
  rintro e w' ⟨rfl, rfl⟩
  clear HR0
  obtain ⟨n, hn⟩ : ∃ n, n = runL (L u) := ⟨_, rfl⟩
  rw [← hn] at hrl ⊢
  unfold intP at HR
  rw [← hn] at HR
  have HERR : Hid (r = badR 3 → ∀ w', Below w.heap.size w w' → DecPost w r (.returned (.tuple #[.agg #[.bool false, .string ⟨#[]⟩, .int .i64 0], .int .i64 3])) w') := fun h w' hb => decPost_of (by rw [h]; rfl) (by decide) hb
  by_cases h0 : n = 0
  · have HF := Lib.hid (HERR.out (HR.out.trans (if_pos (.inl h0))))
    subst h0
    clear HR HERR hn
    go_wp2_with fail
    exact bodyPost_ret (v := .tuple #[.agg #[.bool false, .string ⟨#[]⟩, .int .i64 0], .int .i64 3]) (by simp [results, Tryz.results28, go_sem]) rfl (HF.out _ (HB.out _))
  have h0i : ((n : Int) == 0) = false := by rw [beq_eq_false_iff_ne]; omega
  have hu0 : 0 < u.size := by omega
  have hu0i : (0 : Int) < u.size := by omega
  have HZ0 : Hid (zero0 (L u) = decide ((u[0]).toNat = 48)) := by
    have := L_drop u 0 hu0
    rw [List.drop_zero] at this
    unfold Hid
    rw [this]
    show ((u[0]).toNat == 48) = _
    rw [Bool.eq_iff_iff, beq_iff_eq, decide_eq_true_iff]
  by_cases h1 : 1 < n ∧ (u[0]).toNat = 48
  · have HF := Lib.hid (HERR.out (HR.out.trans (if_pos (.inr ⟨h1.1, by rw [HZ0.out]; exact decide_eq_true h1.2⟩))))
    have h1i : (1 : Int) < n := by omega
    have q := b8t u[0] 48 (by omega)
    clear HR HERR hn h1 HZ0
    go_wp2_with fail
    exact bodyPost_ret (v := .tuple #[.agg #[.bool false, .string ⟨#[]⟩, .int .i64 0], .int .i64 3]) (by simp [results, Tryz.results28, go_sem]) rfl (HF.out _ (HB.out _))
  have HR1 : Hid (r = fracP numP ng ((L u).take n) ((L u).drop n)) := HR.out.trans (if_neg (fun h => h.elim h0 (fun h => h1 ⟨h.1, by have := h.2; rw [HZ0.out] at this; exact of_decide_eq_true this⟩)))
  have hT : ((1 : Int) < n) = True ∧ ((u[0].toNat : Int) == 48) = false ∨ ((1 : Int) < n) = False := by
    by_cases h : 1 < n
    · exact .inl ⟨eq_true (by omega), b8f _ _ (by intro h2; exact h1 ⟨h, by omega⟩)⟩
    · exact .inr (eq_false (by omega))
  have HT := Lib.hid hT
  have HALL : Hid ((L (u.extract 0 n)) = (L u).take n ∧ L (u.extract n u.size) = (L u).drop n) := ⟨by rw [L_extract, List.drop_zero, Nat.sub_zero], L_from u n⟩
  have HDG : Hid (((L u).take n).all dig = true) := by unfold Hid; rw [hn]; exact List.all_eq_true.2 (runL_all (L u))
  clear HR HZ0 h1 hT hn h0
  go_upto_region 5 with fail
  go_cut [26] (fun v wx => v = .bool false ∧ w.alloc (.cells #[.bool false, .string ⟨#[]⟩, .int .i64 0] 23) = wx)
  case first =>
    clear HR1 HERR HALL HDG
    rcases HT.out with ⟨q1, q2⟩ | q1
    all_goals
      clear HT
      go_wp2_with fail
      go_meet
      exact ⟨rfl, rfl⟩
  case rest =>
  obtain ⟨rfl, rfl⟩ := hcut
  clear HT hu0 hu0i h0i
  have hni : (n : Int) ≤ u.size := by omega
  go_upto_region 9 with fail
  generalize hA : u.extract 0 n = al at *
  generalize hU : u.extract n u.size = v at *
  obtain ⟨hal, hv⟩ := HALL.out
  have hals : al.size ≤ 100000 := by rw [sz_of hal, List.length_take, L_len]; omega
  have hvs : v.size ≤ 100000 := by rw [sz_of hv, List.length_drop, L_len]; omega
  replace HR1 : Hid (r = fracP numP ng (L al) (L v)) := by unfold Hid; rw [HR1.out, hal, hv]
  replace HDG : Hid ((L al).all dig = true) := by unfold Hid; rw [hal]; exact HDG.out
  clear HALL hA hU hal hv hni hrl hus
  have HP1 := Lib.hid (HPR.out v 46 (w.alloc (.cells #[.bool false, .string ⟨#[]⟩, .int .i64 0] 23)) hvs)
  have hp1 := fun h => pre_one (s := v) (c := 46) h
  unfold fracP at HR1
  obtain ⟨qf, hqf⟩ : ∃ q, q = pre (L v) [46] := ⟨_, rfl⟩
  rw [← hqf] at HR1 HP1 hp1
  clear hqf
  go_wp2_with fail
  refine HP1.out.mono ?_
  rintro e w' ⟨rfl, rfl⟩
  clear HP1
  go_upto_if 35 with fail
  go_cut [0, 6, 7] (fun v0 v6 v7 wx => FracRel r ng v0 v6 v7 ∧ w.alloc (.cells #[.bool false, .string ⟨#[]⟩, .int .i64 0] 23) = wx)
  case first =>
    cases qf with
    | false =>
      have HF : Hid (FracRel r ng (.string v) (.string al) (.int .i64 0)) := ⟨v, al, 0, rfl, rfl, rfl, hvs, by omega, by decide, by decide, HDG.out, HR1.out⟩
      clear hp1 HR1 HDG HERR
      go_wp2_with fail
      go_meet
      exact ⟨HF.out, rfl⟩
    | true =>
      replace HR1 := Lib.hid (HR1.out.trans (if_pos rfl))
      have h1 := hp1 rfl
      have h1i : (1 : Int) ≤ v.size := by omega
      clear hp1
      go_wp2_with fail
      generalize hT : v.extract 1 v.size = t at *
      have ht : L t = (L v).drop 1 := by rw [← hT, L_from]
      have hts : t.size + 1 = v.size := by have := sz_of ht; rw [List.length_drop, L_len] at this; omega
      refine (HRUN.out t _ (by omega)).mono ?_
      rintro e w' ⟨rfl, rfl⟩
      have hm := runL_le (L t)
      rw [L_len] at hm
      have HDM := Lib.hid (runL_all (L t))
      rw [← ht] at HR1
      have HLT := Lib.hid ht
      generalize runL (L t) = m at *
      clear ht hT
      by_cases h0 : m = 0
      · have HF := Lib.hid (HERR.out (HR1.out.trans (if_pos h0)))
        subst h0
        clear HR1 HERR HDG HDM
        go_wp2_with fail
        exact bodyPost_ret (v := .tuple #[.agg #[.bool false, .string ⟨#[]⟩, .int .i64 0], .int .i64 3]) (by simp [results, Tryz.results28, go_sem]) rfl (HF.out _ (HB.out _))
      have h0i : ((m : Int) == 0) = false := by rw [beq_eq_false_iff_ne]; omega
      have hmv : (m : Int) + 1 ≤ v.size := by omega
      have HF : Hid (FracRel r ng (.string (v.extract (m + 1) v.size)) (.string (al ++ v.extract 1 (m + 1))) (.int .i64 (-(m : Int)))) := by
        have e1 : L (v.extract 1 (m + 1)) = (L t).take m := by rw [L_extract, HLT.out, Nat.add_sub_cancel]
        have e2 : L (v.extract (m + 1) v.size) = (L v).drop (m + 1) := L_from v (m + 1)
        refine ⟨_, _, _, rfl, rfl, rfl, ?_, ?_, by omega, by omega, ?_, ?_⟩
        · rw [sz_of e2, List.length_drop, L_len]; omega
        · rw [← L_len, L_append, List.length_append, e1, List.length_take, L_len, L_len]; omega
        · rw [L_append, e1, List.all_append, HDG.out, Bool.true_and]
          exact List.all_eq_true.2 HDM.out
        · rw [L_append, e1, e2, HR1.out, if_neg h0]
      clear HR1 HERR HDG HDM HLT h0
      go_wp2_with fail
      go_meet
      exact ⟨HF.out, rfl⟩
  case rest =>
  clear HR1 HDG hp1 hals hvs
  obtain ⟨⟨u3, a, x, rfl, rfl, rfl, hu3, has, hx1, hx2, had, hre⟩, rfl⟩ := hcut
  have HR3 := Lib.hid hre
  have HAD := Lib.hid had
  clear hre had
  go_upto_if 55 with fail
  go_cut [7] (fun v7 wx => ExpRel r ng a v7 ∧ w.alloc (.cells #[.bool false, .string ⟨#[]⟩, .int .i64 0] 23) = wx)
  case first =>
    rcases hl : L u3 with _ | ⟨b, tl⟩
    · have hq := isEm.2 hl
      have hq2 : (!u3.toList.isEmpty) = false := by rw [hq]; rfl
      clear hq
      have HF : Hid (ExpRel r ng a (.int .i64 x)) := ⟨x, rfl, by omega, by omega, by rw [HR3.out, hl]; rfl⟩
      clear HR3 hl HAD HERR
      rw [hq2]
      clear hq2
      go_wp2_with fail
      go_meet
      exact ⟨HF.out, rfl⟩
    have hq : u3.toList.isEmpty = false := by rw [Bool.eq_false_iff]; intro h; have := isEm.1 h; rw [hl] at this; cases this
    have hq2 : (!u3.toList.isEmpty) = true := by rw [hq]; rfl
    clear hq
    have hu0 : 0 < u3.size := by have := sz_of hl; rw [List.length_cons] at this; omega
    have h1i : (1 : Int) ≤ u3.size := by omega
    have hd := L_drop u3 0 hu0
    rw [List.drop_zero] at hd
    have htl : (L u3).drop 1 = tl := by rw [hl]; rfl
    obtain ⟨hb0, -⟩ := List.cons.inj (hl.symm.trans hd)
    have HE : Hid (r = if b.toNat = 101 ∨ b.toNat = 69 then expT numP ng (L a) x tl else badR 3) := by unfold Hid; rw [HR3.out, hl]; rfl
    subst hb0
    clear HR3 hl
    rw [hq2]
    clear hq2
    by_cases c1 : (u3[0]).toNat = 101 ∨ (u3[0]).toNat = 69
    case neg =>
      have HF := Lib.hid (HERR.out (HE.out.trans (if_neg c1)))
      have q1 := b8nt u3[0] 101 (by omega)
      have q2 := b8nt u3[0] 69 (by omega)
      clear HE HERR c1 HAD htl
      go_wp2_with fail
      exact bodyPost_ret (v := .tuple #[.agg #[.bool false, .string ⟨#[]⟩, .int .i64 0], .int .i64 3]) (by simp [results, Tryz.results28, go_sem]) rfl (HF.out _ (HB.out _))
    replace HE := Lib.hid (HE.out.trans (if_pos c1))
    generalize ht : u3.extract 1 u3.size = t at *
    have htL : L t = tl := by rw [← ht, L_from, htl]
    have hts : t.size ≤ 100000 := by have h1 := sz_of htL; have h2 := congrArg List.length htl; rw [List.length_drop, L_len] at h2; omega
    have hQ : ((u3[0].toNat : Int) != 101) = false ∨ ((u3[0].toNat : Int) != 101) = true ∧ ((u3[0].toNat : Int) != 69) = false := by
      rcases c1 with h | h
      · exact .inl (b8nf _ _ (by omega))
      · exact .inr ⟨b8nt _ _ (by omega), b8nf _ _ (by omega)⟩
    have HQ := Lib.hid hQ
    subst htL
    have HT := Lib.hid ht
    clear c1 htl hQ ht
    go_upto_region 18 with fail
    go_cut [63] (fun v wx => v = .bool false ∧ w.alloc (.cells #[.bool false, .string ⟨#[]⟩, .int .i64 0] 23) = wx)
    case first =>
      clear HE HERR HAD HT
      rcases HQ.out with q1 | ⟨q1, q2⟩
      all_goals
        clear HQ
        go_wp2_with fail
        go_meet
        exact ⟨rfl, rfl⟩
    case rest =>
    obtain ⟨rfl, rfl⟩ := hcut
    clear HQ
    unfold expT at HE
    have HP5 := Lib.hid (HPR.out t 45 (w.alloc (.cells #[.bool false, .string ⟨#[]⟩, .int .i64 0] 23)) hts)
    have HP3 := Lib.hid (HPR.out t 43 (w.alloc (.cells #[.bool false, .string ⟨#[]⟩, .int .i64 0] 23)) hts)
    obtain ⟨y, hy⟩ : ∃ y, y = exsS (L t) := ⟨_, rfl⟩
    have hy2 := hy
    unfold exsS at hy2
    have hp5 := fun h => pre_one (s := t) (c := 45) h
    have hp3 := fun h => pre_one (s := t) (c := 43) h
    rw [← hy] at HE
    obtain ⟨less, hless⟩ : ∃ q, q = pre (L t) [45] := ⟨_, rfl⟩
    obtain ⟨plus, hplus⟩ : ∃ q, q = pre (L t) [43] := ⟨_, rfl⟩
    rw [← hless] at HE HP5 hy2 hp5
    rw [← hplus] at HP3 hy2 hp3
    have HY := Lib.hid hy2
    have hys : y.length ≤ 100000 := by have := L_len t; rw [hy2]; split <;> (first | (rw [List.length_drop]; omega) | omega)
    clear hless hplus hy hy2
    go_upto_region 21 with fail
    rw [HT.out]
    go_wp2_with fail
    refine HP5.out.mono ?_
    rintro e w' ⟨rfl, rfl⟩
    go_upto_region 22 with fail
    go_cut [73] (fun v wx => v = .bool (less || plus) ∧ w.alloc (.cells #[.bool false, .string ⟨#[]⟩, .int .i64 0] 23) = wx)
    case first =>
      clear HE HERR HAD HY HP5
      cases less
      · go_wp2_with fail
        refine HP3.out.mono ?_
        rintro e w' ⟨rfl, rfl⟩
        cases plus
        all_goals
          go_wp2_with fail
          go_meet
          exact ⟨rfl, rfl⟩
      · go_wp2_with fail
        go_meet
        exact ⟨rfl, rfl⟩
    case rest =>
    obtain ⟨rfl, rfl⟩ := hcut
    clear HP5 HP3
    go_upto_if 73 with fail
    go_cut [0] (fun v wx => StrIs v y ∧ w.alloc (.cells #[.bool false, .string ⟨#[]⟩, .int .i64 0] 23) = wx)
    case first =>
      clear HE HERR HAD
      have HX : Hid (L (t.extract 1 t.size) = (L t).drop 1) := L_from t 1
      have h1 : (less || plus) = true → (1 : Int) ≤ t.size := by
        intro h
        have h' : less = true ∨ plus = true := by cases less <;> cases plus <;> first | exact .inl rfl | exact .inr rfl | cases h
        rcases h' with h | h
        · have := hp5 h; omega
        · have := hp3 h; omega
      generalize (less || plus) = q at *
      cases q
      · have HF : Hid (StrIs (.string t) y) := ⟨t, rfl, by rw [HY.out]; rfl⟩
        clear HY HX h1 hp5 hp3
        go_wp2_with fail
        go_meet
        exact ⟨HF.out, rfl⟩
      · have HF : Hid (StrIs (.string (t.extract 1 t.size)) y) := ⟨_, rfl, by rw [HY.out, HX.out]; rfl⟩
        have h1i := h1 rfl
        clear HY HX h1 hp5 hp3
        go_wp2_with fail
        go_meet
        exact ⟨HF.out, rfl⟩
    case rest =>
    obtain ⟨⟨u4, rfl, hu4⟩, rfl⟩ := hcut
    subst hu4
    clear HY hp5 hp3
    have hu4s : u4.size ≤ 100000 := by rw [L_len] at hys; exact hys
    have HR4 := Lib.hid (HRUN.out u4 (w.alloc (.cells #[.bool false, .string ⟨#[]⟩, .int .i64 0] 23)) hu4s)
    rcases Classical.em (L u4 = []) with hl | hl
    · have HF := Lib.hid (HERR.out (HE.out.trans (if_pos (.inl hl))))
      have hq := isEm.2 hl
      clear HE HERR hl HAD HR4
      go_wp2_with fail
      exact bodyPost_ret (v := .tuple #[.agg #[.bool false, .string ⟨#[]⟩, .int .i64 0], .int .i64 3]) (by simp [results, Tryz.results28, go_sem]) rfl (HF.out _ (HB.out _))
    have hq : u4.toList.isEmpty = false := by rw [Bool.eq_false_iff]; exact fun h => hl (isEm.1 h)
    rcases Classical.em (runL (L u4) = u4.size) with hr | hr
    case inr =>
      have HF := Lib.hid (HERR.out (HE.out.trans (if_pos (.inr (by rw [L_len]; exact hr)))))
      have hri : ((runL (L u4) : Int) != (u4.size : Int)) = true := by rw [bne_iff_ne]; omega
      clear HE HERR hl HAD hr
      generalize runL (L u4) = m at *
      go_wp2_with fail
      refine HR4.out.mono ?_
      rintro e w' ⟨rfl, rfl⟩
      go_wp2_with fail
      exact bodyPost_ret (v := .tuple #[.agg #[.bool false, .string ⟨#[]⟩, .int .i64 0], .int .i64 3]) (by simp [results, Tryz.results28, go_sem]) rfl (HF.out _ (HB.out _))
    have HE2 := Lib.hid (HE.out.trans (if_neg (by rw [L_len]; exact fun h => h.elim hl (fun h => h hr))))
    have HDU : Hid (∀ b ∈ L u4, dig b = true) := by
      have := runL_all (L u4)
      rw [hr, List.take_of_length_le (by rw [L_len]; exact Nat.le_refl _)] at this
      exact this
    rw [hr] at HR4
    clear HE HERR hl hr
    go_wp2_with fail
    refine HR4.out.mono ?_
    rintro e w' ⟨rfl, rfl⟩
    clear HR4
    have HTL := Lib.hid (fun w' => TrimLeft0_any u4 w')
    go_wp2_with fail
    refine (HTL.out _).mono ?_
    rintro e w' ⟨t5, rfl, ht5, rfl⟩
    have ht5s : t5.size ≤ 100000 := by have h1 := zl_le (L u4); have h2 := sz_of ht5; rw [L_len] at h1; omega
    have hnat : t5.size ≤ 12 → natB (L t5) = true := by
      intro h12
      unfold natB
      rw [Bool.and_eq_true, Bool.and_eq_true, decide_eq_true_iff, decide_eq_true_iff]
      refine ⟨by rw [L_len]; omega, ?_, ?_⟩
      · rw [ht5]; exact List.all_eq_true.2 (zl_all _ HDU.out)
      · rw [ht5]
        rcases hz : zl (L u4) with _ | ⟨b, tl⟩
        · simp
        · have := zl_head _ _ _ hz
          simpa using this
    have HMV := Lib.hid (fun w' => moved_any x less t5 (L u4) w' hx1 hx2 (by omega) ht5 hnat)
    have hfar : -3000000000000 ≤ movE x less (numP (L u4)) ∧ movE x less (numP (L u4)) ≤ 3000000000000 := by
      have hn : 0 ≤ numP (L u4) ∧ numP (L u4) ≤ 1099511627776 := by
        unfold numP
        split
        · rename_i h
          have h1 := valL_lt (zl (L u4)) 0 (zl_all _ HDU.out)
          have h3 : (10 : Nat) ^ (zl (L u4)).length ≤ 10 ^ 12 := Nat.pow_le_pow_right (by decide) h
          have h4 : (10 : Nat) ^ 12 = 1000000000000 := by decide
          omega
        · omega
      unfold movE
      split <;> omega
    have HF : Hid (ExpRel r ng a (.int .i64 (movE x less (numP (L u4))))) := ⟨_, rfl, hfar.1, hfar.2, HE2.out⟩
    clear hnat hfar HE2 HDU HTL HAD
    generalize movE x less (numP (L u4)) = z at *
    go_wp2_with fail
    refine (HMV.out _).mono ?_
    rintro e w' ⟨rfl, rfl⟩
    go_wp2_with fail
    go_meet
    exact ⟨HF.out, rfl⟩
  case rest =>
    obtain ⟨⟨y, rfl, hy1, hy2, hre⟩, rfl⟩ := hcut
    have HM := Lib.hid (fun w' => Make_any ng a y w' (by omega) hy1 hy2 HAD.out)
    rw [← hre] at HM
    clear HR3 HAD HERR hre
    go_wp2_with fail
    refine (HM.out _).mono ?_
    rintro e w2 ⟨rfl, hb⟩
    have HB2 := Lib.hid (((Below.refl _ w).alloc (Nat.le_refl _) _).trans (hb.mono (by simp)))
    have hx0 := (hb.block w.heap.size (by simp)).trans (heap_alloc_new w _)
    obtain ⟨⟨y0, y1, y2⟩, yf⟩ := box3 hx0
    obtain ⟨rn, rs, re, rr⟩ := r
    clear hx0 hb HM
    go_wp2_with fail
    refine bodyPost_ret (v := decV ⟨rn, rs, re, rr⟩) (by simp [results, Tryz.results28, go_sem, y0, y1, y2]) rfl ⟨rfl, ?_⟩
    repeat refine Below.setCell ?_ (by dsimp only; omega) _
    exact HB2.out
end Go.Proofs.YtlnpfpjncnkekaaGreatDoor

namespace Go.Proofs.YtlnpfpjncnkekaaGreatDoor
open Go.RowKit
set_option maxHeartbeats 4000000
set_option maxRecDepth 100000

end Go.Proofs.YtlnpfpjncnkekaaGreatDoor

namespace Go.Proofs.YtlnpfpjncnkekaaGreatDoor
open Go.RowKit
set_option maxHeartbeats 8000000
set_option maxRecDepth 100000

end Go.Proofs.YtlnpfpjncnkekaaGreatDoor
