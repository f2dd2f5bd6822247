/- Digits, zeros: the packages digits and datakitref01, and strings.TrimRight, TrimLeft at one zero, walked. Conditions: none. -/
import Derived.Test.YtmafggfonapmpaaDoorNu1
import Derived.Test.YtmafggfonapmpaaDoorL1
import Derived.BigGuardPart
import Derived.Deep.DeepCutAuto
import Derived.Deep.CutBlock
namespace Go.Proofs.YtmafggfonapmpaaDoor
open Go.RowKit
set_option maxHeartbeats 1000000
set_option maxRecDepth 100000

/-- A natural number's digits. -/
def natB (l : List UInt8) : Bool := decide (l.length ≤ 600) && (l.all dig && decide (l.head?.map (·.toNat) ≠ some 48))
theorem b8t (b : UInt8) (n : Int) (h : (b.toNat : Int) = n) : ((b.toNat : Int) == n) = true := by rw [beq_iff_eq]; exact h
theorem b8f (b : UInt8) (n : Int) (h : ¬ (b.toNat : Int) = n) : ((b.toNat : Int) == n) = false := by rw [beq_eq_false_iff_ne]; exact h
theorem b8nt (b : UInt8) (n : Int) (h : ¬ (b.toNat : Int) = n) : ((b.toNat : Int) != n) = true := by rw [bne_iff_ne]; exact h
theorem b8nf (b : UInt8) (n : Int) (h : (b.toNat : Int) = n) : ((b.toNat : Int) != n) = false := by rw [bne_eq_false_iff_eq]; exact h
theorem rb {a b : Bool} (h : a = b) : Ending.returned (.bool a) = Ending.returned (.bool b) := by rw [h]
theorem all_dropD (l : List UInt8) (k : Nat) (h : k < l.length) : (l.drop k).all dig = (dig l[k] && (l.drop (k + 1)).all dig) := by
  rw [List.drop_eq_getElem_cons h, List.all_cons]
theorem Digits1_any (s : ByteArray) (w : World) (hs : s.size ≤ 1000000000) :
    Calls Tryd.prog 69 #[.string s] w fun e w' => e = .returned (.bool ((L s).all dig)) ∧ w = w' := by
  obtain ⟨r, hr⟩ : ∃ r, r = (L s).all dig := ⟨_, rfl⟩
  rw [← hr]
  have HR := Lib.hid hr; clear hr
  go_enter Tryd.func69, Tryd.ntmps69
  go_wp2_with fail
  go_loop [3] (fun i => ∃ k : Nat, k ≤ s.size ∧ i = .int .i64 k ∧ Hid (r = ((L s).drop k).all dig)) (fun i => s.size - (intOf i).toNat)
  case atStart => exact ⟨0, Nat.zero_le _, rfl, by unfold Hid; rw [HR.out, List.drop_zero]⟩
  case round =>
    obtain ⟨k, hk, rfl, hc⟩ := hrel
    by_cases hlt : k < s.size
    case neg =>
      have HF : Hid (r = true) := by unfold Hid; rw [hc.out, List.drop_of_length_le (by rw [L_len]; omega)]; rfl
      clear hc HR
      go_wp2_with fail
      go_ret
      exact ⟨by rw [HF.out]; rfl, rfl⟩
    have HS : Hid (r = (dig s[k] && ((L s).drop (k + 1)).all dig)) := by unfold Hid; rw [hc.out, all_dropD _ _ (by rw [L_len]; exact hlt), L_get]
    by_cases h1 : (s[k].toNat : Int) < 48
    · have HF : Hid (r = false) := by unfold Hid; rw [HS.out]; simp [dig]; omega
      clear hc HR HS
      go_wp2_with fail
      go_ret
      exact ⟨by rw [HF.out]; rfl, rfl⟩
    by_cases h2 : 57 < (s[k].toNat : Int)
    · have HF : Hid (r = false) := by unfold Hid; rw [HS.out]; simp [dig]; omega
      clear hc HR HS
      go_wp2_with fail
      go_ret
      exact ⟨by rw [HF.out]; rfl, rfl⟩
    have HF : Hid (r = ((L s).drop (k + 1)).all dig) := by
      unfold Hid
      have : dig s[k] = true := decide_eq_true ⟨by omega, by omega⟩
      rw [HS.out, this, Bool.true_and]
    clear hc HR HS
    go_wp2_with fail
    exact ⟨⟨k + 1, by omega, rfl, HF⟩, by simp [intOf]; omega⟩
theorem Zeros1_any (s : ByteArray) (w : World) (hs : s.size ≤ 1000000000) :
    Calls Tryd.prog 50 #[.string s] w fun e w' => e = .returned (.int .i64 (tz (L s))) ∧ w = w' := by
  obtain ⟨r, hr⟩ : ∃ r, r = tz (L s) := ⟨_, rfl⟩
  rw [← hr]
  have HR := Lib.hid hr; clear hr
  go_enter Tryd.func50, Tryd.ntmps50
  go_wp2_with fail
  go_loop [3] (fun i => ∃ k : Nat, k ≤ s.size ∧ i = .int .i64 k ∧ Hid (r = k + tz ((L s).take (s.size - k)))) (fun i => s.size - (intOf i).toNat)
  case atStart => exact ⟨0, Nat.zero_le _, rfl, by unfold Hid; rw [HR.out, Nat.sub_zero, List.take_of_length_le (by rw [L_len]; omega), Nat.zero_add]⟩
  case round =>
    obtain ⟨k, hk, rfl, hc⟩ := hrel
    by_cases hlt : k < s.size
    case neg =>
      have HF : Hid (r = k) := by unfold Hid; rw [hc.out, show s.size - k = 0 by omega]; rfl
      clear hc HR
      go_wp2_with fail
      go_ret
      exact ⟨by rw [HF.out]; rfl, rfl⟩
    have hz : s.size - 1 - k < s.size := by omega
    have ht : (L s).take (s.size - k) = (L s).take (s.size - 1 - k) ++ [s[s.size - 1 - k]] := by
      rw [show s.size - k = (s.size - 1 - k) + 1 by omega, List.take_succ_eq_append_getElem (by rw [L_len]; exact hz)]
      rfl
    have HS := Lib.hid (hc.out.trans (by rw [ht, tz_snoc]))
    have hi0 : (0 : Int) ≤ (s.size : Int) - 1 - k := by omega
    have hi1 : (s.size : Int) - 1 - k < s.size := by omega
    have hi2 : ((s.size : Int) - 1 - k).toNat = s.size - 1 - k := by omega
    clear ht hc
    by_cases h1 : (s[s.size - 1 - k]).toNat = 48
    · have HF : Hid (r = (k + 1) + tz ((L s).take (s.size - (k + 1)))) := by
        unfold Hid
        rw [HS.out, if_pos h1, show s.size - (k + 1) = s.size - 1 - k by omega]
        omega
      have q := b8t s[s.size - 1 - k] 48 (by omega)
      clear HS h1
      go_wp2_with fail
      exact ⟨⟨k + 1, by omega, rfl, HF⟩, by simp [intOf]; omega⟩
    · have HF : Hid (r = k) := by unfold Hid; rw [HS.out, if_neg h1]; rfl
      have q := b8f s[s.size - 1 - k] 48 (by omega)
      clear HS h1
      go_wp2_with fail
      go_ret
      exact ⟨by rw [HF.out]; rfl, rfl⟩
theorem Valid1_any (s : ByteArray) (w : World) (hs : s.size ≤ 1000000000) :
    Calls Tryd.prog 61 #[.string s] w fun e w' => e = .returned (.bool (natB (L s))) ∧ w = w' := by
  have HD := Lib.hid (Digits1_any s w hs)
  obtain ⟨r, hr⟩ : ∃ r, r = natB (L s) := ⟨_, rfl⟩
  rw [← hr]
  unfold natB at hr
  rw [L_len] at hr
  have HR := Lib.hid hr; clear hr
  by_cases h0 : s.size ≤ 600
  case neg =>
    have HF : Hid (r = false) := by unfold Hid; rw [HR.out, decide_eq_false h0]; rfl
    clear HR HD
    go_enter Tryd.func61, Tryd.ntmps61
    go_wp2_with fail
    go_ret
    exact ⟨rb HF.out.symm, rfl⟩
  have h0i : (s.size : Int) ≤ 600 := by omega
  have HR2 : Hid (r = ((L s).all dig && decide ((L s).head?.map (·.toNat) ≠ some 48))) := by unfold Hid; rw [HR.out, decide_eq_true h0, Bool.true_and]
  clear HR
  cases hd : (L s).all dig with
  | false =>
    rw [hd] at HD HR2
    clear hd
    go_enter Tryd.func61, Tryd.ntmps61
    go_wp2_with fail
    refine HD.out.mono ?_
    rintro e w' ⟨rfl, rfl⟩
    go_wp2_with fail
    go_ret
    exact ⟨rb HR2.out.symm, rfl⟩
  | true =>
    rw [hd] at HD HR2
    clear hd
    by_cases h1 : s.size = 0
    · have HF : Hid (r = true) := by
        unfold Hid
        rw [HR2.out, Bool.true_and, List.length_eq_zero_iff.1 ((L_len s).trans h1)]
        rfl
      clear HR2
      go_enter Tryd.func61, Tryd.ntmps61
      go_wp2_with fail
      refine HD.out.mono ?_
      rintro e w' ⟨rfl, rfl⟩
      go_wp2_with fail
      go_ret
      exact ⟨rb HF.out.symm, rfl⟩
    · have hp : 0 < s.size := by omega
      have hL : (L s).head?.map (·.toNat) = some (s[0]'hp).toNat := by
        have := L_drop s 0 hp
        rw [List.drop_zero] at this
        rw [this]
        rfl
      rw [hL] at HR2
      have hq : ((s.size : Int) == 0) = false := by rw [beq_eq_false_iff_ne]; omega
      clear hL
      by_cases h2 : ((s[0]'hp).toNat : Int) = 48
      · have q := b8nf _ _ h2
        have HF : Hid (r = false) := by unfold Hid; rw [HR2.out, Bool.true_and, decide_eq_false (by simp; omega)]
        clear HR2 h2
        go_enter Tryd.func61, Tryd.ntmps61
        go_wp2_with fail
        refine HD.out.mono ?_
        rintro e w' ⟨rfl, rfl⟩
        go_wp2_with fail
        go_ret
        exact ⟨rb HF.out.symm, rfl⟩
      · have q := b8nt _ _ h2
        have HF : Hid (r = true) := by unfold Hid; rw [HR2.out, Bool.true_and, decide_eq_true (by simp; omega)]
        clear HR2 h2
        go_enter Tryd.func61, Tryd.ntmps61
        go_wp2_with fail
        refine HD.out.mono ?_
        rintro e w' ⟨rfl, rfl⟩
        go_wp2_with fail
        go_ret
        exact ⟨rb HF.out.symm, rfl⟩
theorem isEm {s : ByteArray} : (s.toList.isEmpty = true ↔ L s = []) := by rw [toList_L, List.isEmpty_iff]
theorem dAll_any (s : ByteArray) (w : World) (hs : s.size ≤ 1000000000) :
    Calls Tryd.prog 63 #[.string s] w fun e w' => e = .returned (.bool ((L s).all dig)) ∧ w = w' := by
  obtain ⟨r, hr⟩ : ∃ r, r = (L s).all dig := ⟨_, rfl⟩
  rw [← hr]
  have HR := Lib.hid hr; clear hr
  go_enter Tryd.func63, Tryd.ntmps63
  go_wp2_with fail
  go_loop [3, 6] (fun _ i => ∃ k : Nat, k ≤ s.size ∧ i = .int .i64 k ∧ Hid (r = ((L s).drop k).all dig)) (fun _ i => s.size - (intOf i).toNat)
  case atStart => exact ⟨0, Nat.zero_le _, rfl, by unfold Hid; rw [HR.out, List.drop_zero]⟩
  case round =>
    obtain ⟨k, hk, rfl, hc⟩ := hrel
    by_cases hlt : k < s.size
    case neg =>
      have HF : Hid (r = true) := by unfold Hid; rw [hc.out, List.drop_of_length_le (by rw [L_len]; omega)]; rfl
      clear hc HR
      go_wp2_with fail
      go_ret
      exact ⟨by rw [HF.out]; rfl, rfl⟩
    have HS : Hid (r = (dig s[k] && ((L s).drop (k + 1)).all dig)) := by unfold Hid; rw [hc.out, all_dropD _ _ (by rw [L_len]; exact hlt), L_get]
    by_cases h1 : (s[k].toNat : Int) < 48
    · have HF : Hid (r = false) := by unfold Hid; rw [HS.out]; simp [dig]; omega
      clear hc HR HS
      go_wp2_with fail
      go_ret
      exact ⟨by rw [HF.out]; rfl, rfl⟩
    by_cases h2 : 57 < (s[k].toNat : Int)
    · have HF : Hid (r = false) := by unfold Hid; rw [HS.out]; simp [dig]; omega
      clear hc HR HS
      go_wp2_with fail
      go_ret
      exact ⟨by rw [HF.out]; rfl, rfl⟩
    have HF : Hid (r = ((L s).drop (k + 1)).all dig) := by
      unfold Hid
      have : dig s[k] = true := decide_eq_true ⟨by omega, by omega⟩
      rw [HS.out, this, Bool.true_and]
    clear hc HR HS
    go_wp2_with fail
    exact ⟨⟨k + 1, by omega, rfl, HF⟩, by simp [intOf]; omega⟩
theorem dValid_any (s : ByteArray) (w : World) (hs : s.size ≤ 1000000000) :
    Calls Tryd.prog 56 #[.string s] w fun e w' => e = .returned (.bool (natB (L s))) ∧ w = w' := by
  have HD := Lib.hid (dAll_any s w hs)
  obtain ⟨r, hr⟩ : ∃ r, r = natB (L s) := ⟨_, rfl⟩
  rw [← hr]
  unfold natB at hr
  rw [L_len] at hr
  have HR := Lib.hid hr; clear hr
  by_cases h0 : s.size ≤ 600
  case neg =>
    have HF : Hid (r = false) := by unfold Hid; rw [HR.out, decide_eq_false h0]; rfl
    have h0i : ¬ (s.size : Int) ≤ 600 := by omega
    clear HR HD h0
    go_enter Tryd.func56, Tryd.ntmps56
    go_wp2_with fail
    go_ret
    exact ⟨rb HF.out.symm, rfl⟩
  have h0i : (s.size : Int) ≤ 600 := by omega
  have HR2 : Hid (r = ((L s).all dig && decide ((L s).head?.map (·.toNat) ≠ some 48))) := by unfold Hid; rw [HR.out, decide_eq_true h0, Bool.true_and]
  clear HR
  cases hd : (L s).all dig with
  | false =>
    rw [hd] at HD HR2
    clear hd
    go_enter Tryd.func56, Tryd.ntmps56
    go_wp2_with fail
    refine HD.out.mono ?_
    rintro e w' ⟨rfl, rfl⟩
    go_wp2_with fail
    go_ret
    exact ⟨rb HR2.out.symm, rfl⟩
  | true =>
    rw [hd] at HD HR2
    clear hd
    by_cases h1 : s.size = 0
    · have HF : Hid (r = true) := by
        unfold Hid
        rw [HR2.out, Bool.true_and, List.length_eq_zero_iff.1 ((L_len s).trans h1)]
        rfl
      have hq : s.toList.isEmpty = true := isEm.2 (List.length_eq_zero_iff.1 ((L_len s).trans h1))
      clear HR2 h1
      go_enter Tryd.func56, Tryd.ntmps56
      go_wp2_with fail
      refine HD.out.mono ?_
      rintro e w' ⟨rfl, rfl⟩
      go_wp2_with fail
      go_ret
      exact ⟨rb HF.out.symm, rfl⟩
    · have hp : 0 < s.size := by omega
      have hL : (L s).head?.map (·.toNat) = some (s[0]'hp).toNat := by
        have := L_drop s 0 hp
        rw [List.drop_zero] at this
        rw [this]
        rfl
      rw [hL] at HR2
      have hq : s.toList.isEmpty = false := by
        rw [Bool.eq_false_iff]
        intro h
        have := isEm.1 h
        rw [← List.length_eq_zero_iff, L_len] at this
        omega
      clear hL
      by_cases h2 : ((s[0]'hp).toNat : Int) = 48
      · have q := b8nf _ _ h2
        have HF : Hid (r = false) := by unfold Hid; rw [HR2.out, Bool.true_and, decide_eq_false (by simp; omega)]
        clear HR2 h2
        go_enter Tryd.func56, Tryd.ntmps56
        go_wp2_with fail
        refine HD.out.mono ?_
        rintro e w' ⟨rfl, rfl⟩
        go_wp2_with fail
        go_ret
        exact ⟨rb HF.out.symm, rfl⟩
      · have q := b8nt _ _ h2
        have HF : Hid (r = true) := by unfold Hid; rw [HR2.out, Bool.true_and, decide_eq_true (by simp; omega)]
        clear HR2 h2
        go_enter Tryd.func56, Tryd.ntmps56
        go_wp2_with fail
        refine HD.out.mono ?_
        rintro e w' ⟨rfl, rfl⟩
        go_wp2_with fail
        go_ret
        exact ⟨rb HF.out.symm, rfl⟩
/-- What is left behind the zeros' removal. -/
def TrimPost (s : ByteArray) (w : World) (e : Ending) (w' : World) : Prop := ∃ t : ByteArray, e = .returned (.string t) ∧ t.size + tz (L s) = s.size ∧ L t = (L s).take t.size ∧ w = w'
theorem trimByte_any (s : ByteArray) (w : World) (hs : s.size ≤ 1000000000) :
    Calls Tryd.prog 66 #[.string s, .int .u8 48] w (TrimPost s w) := by
  go_enter Tryd.func66, Tryd.ntmps66
  go_wp2_with fail
  go_loop [0] (fun v => ∃ t : ByteArray, v = .string t ∧ t.size ≤ s.size ∧ Hid (L t = (L s).take t.size ∧ tz (L s) = (s.size - t.size) + tz (L t))) (fun v => match v with | .string t => t.size | _ => 0)
  case atStart => exact ⟨s, rfl, Nat.le_refl _, by rw [List.take_of_length_le (by rw [L_len]; exact Nat.le_refl _)], by rw [Nat.sub_self, Nat.zero_add]⟩
  case round =>
    obtain ⟨t, rfl, hts, HC⟩ := hrel
    by_cases h0 : t.size = 0
    · have HF : Hid (TrimPost s w (.returned (.string t)) w) := by
        refine ⟨t, rfl, ?_, HC.out.1, rfl⟩
        have : L t = [] := List.length_eq_zero_iff.1 ((L_len t).trans h0)
        have h := HC.out.2
        rw [this] at h
        have h3 : tz ([] : List UInt8) = 0 := rfl
        omega
      have h0i : ¬ (0 : Int) < t.size := by omega
      have h0n : ¬ 0 < t.size := by omega
      clear h0 HC
      go_wp2_with fail
      go_ret
      exact HF.out
    · have hp : t.size - 1 < t.size := by omega
      have h0i : (0 : Int) < t.size := by omega
      have h0n : 0 < t.size := by omega
      have hi0 : (0 : Int) ≤ (t.size : Int) - 1 := by omega
      have hi1 : (t.size : Int) - 1 < t.size := by omega
      have hi2 : ((t.size : Int) - 1).toNat = t.size - 1 := by omega
      have hl : L t = (L t).take (t.size - 1) ++ [t[t.size - 1]] := by
        have := L_take_succ t (t.size - 1) hp
        rw [show t.size - 1 + 1 = t.size by omega, List.take_of_length_le (by rw [L_len]; omega)] at this
        exact this
      have HT : Hid (tz (L t) = if (t[t.size - 1]).toNat = 48 then tz ((L t).take (t.size - 1)) + 1 else 0) := by
        unfold Hid
        have h2 := tz_snoc ((L t).take (t.size - 1)) t[t.size - 1]
        rw [← hl] at h2
        exact h2
      clear hl
      by_cases h1 : (t[t.size - 1]).toNat = 48
      · have hx : L (t.extract 0 (t.size - 1)) = (L t).take (t.size - 1) := L_upto t (t.size - 1)
        have hz : (t.extract 0 (t.size - 1)).size = t.size - 1 := by rw [← L_len, hx, List.length_take, L_len]; omega
        have HN : Hid (L (t.extract 0 (t.size - 1)) = (L s).take (t.extract 0 (t.size - 1)).size ∧ tz (L s) = (s.size - (t.extract 0 (t.size - 1)).size) + tz (L (t.extract 0 (t.size - 1)))) := by
          unfold Hid
          rw [hz, hx]
          refine ⟨?_, ?_⟩
          · rw [HC.out.1, List.take_take, Nat.min_eq_left (by omega)]
          · have h2 := HT.out
            rw [if_pos h1] at h2
            have h3 := HC.out.2
            omega
        have HZ := Lib.hid hz
        have q := b8t t[t.size - 1] 48 (by omega)
        clear HT HC h1 hx hz h0
        go_wp2_with fail
        exact ⟨⟨t.extract 0 (t.size - 1), rfl, by rw [HZ.out]; omega, HN⟩, by simp only []; rw [HZ.out]; omega⟩
      · have HF : Hid (TrimPost s w (.returned (.string t)) w) := by
          refine ⟨t, rfl, ?_, HC.out.1, rfl⟩
          have h2 := HT.out
          rw [if_neg h1] at h2
          have h3 := HC.out.2
          omega
        have q := b8f t[t.size - 1] 48 (by omega)
        clear HT HC h1 h0
        go_wp2_with fail
        go_ret
        exact HF.out
theorem TrimRight0_any (s : ByteArray) (w : World) (hs : s.size ≤ 1000000000) :
    Calls Tryd.prog 60 #[.string s, .string ⟨#[48]⟩] w (TrimPost s w) := by
  have HT := Lib.hid (trimByte_any s w hs)
  by_cases h0 : L s = []
  · have HF : Hid (TrimPost s w (.returned (.string s)) w) := by
      refine ⟨s, rfl, ?_, by rw [List.take_of_length_le (by rw [L_len]; exact Nat.le_refl _)], rfl⟩
      rw [h0]
      rfl
    have hq := isEm.2 h0
    clear h0 HT
    go_enter Tryd.func60, Tryd.ntmps60
    go_wp2_with fail
    go_ret
    exact HF.out
  · have hq : s.toList.isEmpty = false := by rw [Bool.eq_false_iff]; exact fun h => h0 (isEm.1 h)
    clear h0
    go_enter Tryd.func60, Tryd.ntmps60
    go_wp2_with fail
    refine HT.out.mono ?_
    rintro e w1 ⟨t, rfl, h1, h2, rfl⟩
    have HF : Hid (TrimPost s w (.returned (.string t)) w) := ⟨t, rfl, h1, h2, rfl⟩
    clear h1 h2
    go_wp2_with fail
    go_ret
    exact HF.out
end Go.Proofs.YtmafggfonapmpaaDoor
