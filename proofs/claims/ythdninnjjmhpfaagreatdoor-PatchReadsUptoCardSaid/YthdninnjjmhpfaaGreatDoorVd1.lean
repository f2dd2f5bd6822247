/- digits.all, Valid, Zeros, decimal.Valid, moment.Valid (and strings.TrimRight at one zero) walked. Conditions: none. -/
import Derived.Test.YthdninnjjmhpfaaGreatDoorTm
namespace Go.Proofs.YthdninnjjmhpfaaGreatDoor
open Go.RowKit
set_option maxHeartbeats 1000000
set_option maxRecDepth 100000

theorem dAll_any (s : ByteArray) (w : World) (hs : s.size ≤ 1000000000) :
    Calls Tryz.prog 184 #[.string s] w fun e w' => e = .returned (.bool ((L s).all dig)) ∧ w = w' := by
  obtain ⟨r, hr⟩ : ∃ r, r = (L s).all dig := ⟨_, rfl⟩
  rw [← hr]
  have HR := Lib.hid hr; clear hr
  go_enter Tryz.func184, Tryz.ntmps184
  go_wp2_with fail
  go_loop [3, 6] (fun _ i => ∃ k : Nat, k ≤ s.size ∧ i = .int .i64 k ∧ Hid (r = ((L s).drop k).all dig)) (fun _ i => s.size - (intOf i).toNat)
  case atStart => exact ⟨0, Nat.zero_le _, rfl, by unfold Hid; rw [HR.out, List.drop_zero]⟩
  case round =>
    obtain ⟨k, hk, rfl, hc⟩ := hrel
    by_cases hlt : k < s.size
    case neg =>
      have HF : Hid (r = true) := by unfold Hid; rw [hc.out, List.drop_of_length_le (by rw [L_len]; omega)]; rfl
      clear hc HR
      go_wp2_with fail
      go_ret
      exact ⟨by rw [HF.out]; rfl, rfl⟩
    have HS : Hid (r = (dig s[k] && ((L s).drop (k + 1)).all dig)) := by unfold Hid; rw [hc.out, all_dropD _ _ (by rw [L_len]; exact hlt), L_get]
    by_cases h1 : (s[k].toNat : Int) < 48
    · have HF : Hid (r = false) := by unfold Hid; rw [HS.out]; simp [dig]; omega
      clear hc HR HS
      go_wp2_with fail
      go_ret
      exact ⟨by rw [HF.out]; rfl, rfl⟩
    by_cases h2 : 57 < (s[k].toNat : Int)
    · have HF : Hid (r = false) := by unfold Hid; rw [HS.out]; simp [dig]; omega
      clear hc HR HS
      go_wp2_with fail
      go_ret
      exact ⟨by rw [HF.out]; rfl, rfl⟩
    have HF : Hid (r = ((L s).drop (k + 1)).all dig) := by
      unfold Hid
      have : dig s[k] = true := decide_eq_true ⟨by omega, by omega⟩
      rw [HS.out, this, Bool.true_and]
    clear hc HR HS
    go_wp2_with fail
    exact ⟨⟨k + 1, by omega, rfl, HF⟩, by simp [intOf]; omega⟩
theorem dValid_any (s : ByteArray) (w : World) (hs : s.size ≤ 1000000000) :
    Calls Tryz.prog 149 #[.string s] w fun e w' => e = .returned (.bool (natB (L s))) ∧ w = w' := by
  have HD := Lib.hid (dAll_any s w hs)
  obtain ⟨r, hr⟩ : ∃ r, r = natB (L s) := ⟨_, rfl⟩
  rw [← hr]
  unfold natB at hr
  rw [L_len] at hr
  have HR := Lib.hid hr; clear hr
  by_cases h0 : s.size ≤ 600
  case neg =>
    have HF : Hid (r = false) := by unfold Hid; rw [HR.out, decide_eq_false h0]; rfl
    have h0i : ¬ (s.size : Int) ≤ 600 := by omega
    clear HR HD h0
    go_enter Tryz.func149, Tryz.ntmps149
    go_wp2_with fail
    go_ret
    exact ⟨rb HF.out.symm, rfl⟩
  have h0i : (s.size : Int) ≤ 600 := by omega
  have HR2 : Hid (r = ((L s).all dig && decide ((L s).head?.map (·.toNat) ≠ some 48))) := by unfold Hid; rw [HR.out, decide_eq_true h0, Bool.true_and]
  clear HR
  cases hd : (L s).all dig with
  | false =>
    rw [hd] at HD HR2
    clear hd
    go_enter Tryz.func149, Tryz.ntmps149
    go_wp2_with fail
    refine HD.out.mono ?_
    rintro e w' ⟨rfl, rfl⟩
    go_wp2_with fail
    go_ret
    exact ⟨rb HR2.out.symm, rfl⟩
  | true =>
    rw [hd] at HD HR2
    clear hd
    by_cases h1 : s.size = 0
    · have HF : Hid (r = true) := by
        unfold Hid
        rw [HR2.out, Bool.true_and, List.length_eq_zero_iff.1 ((L_len s).trans h1)]
        rfl
      have hq : s.toList.isEmpty = true := isE.2 (List.length_eq_zero_iff.1 ((L_len s).trans h1))
      clear HR2 h1
      go_enter Tryz.func149, Tryz.ntmps149
      go_wp2_with fail
      refine HD.out.mono ?_
      rintro e w' ⟨rfl, rfl⟩
      go_wp2_with fail
      go_ret
      exact ⟨rb HF.out.symm, rfl⟩
    · have hp : 0 < s.size := by omega
      have hL : (L s).head?.map (·.toNat) = some (s[0]'hp).toNat := by
        have := L_drop s 0 hp
        rw [List.drop_zero] at this
        rw [this]
        rfl
      rw [hL] at HR2
      have hq : s.toList.isEmpty = false := by
        rw [Bool.eq_false_iff]
        intro h
        have := isE.1 h
        rw [← List.length_eq_zero_iff, L_len] at this
        omega
      clear hL
      by_cases h2 : ((s[0]'hp).toNat : Int) = 48
      · have q := b8nf _ _ h2
        have HF : Hid (r = false) := by unfold Hid; rw [HR2.out, Bool.true_and, decide_eq_false (by simp; omega)]
        clear HR2 h2
        go_enter Tryz.func149, Tryz.ntmps149
        go_wp2_with fail
        refine HD.out.mono ?_
        rintro e w' ⟨rfl, rfl⟩
        go_wp2_with fail
        go_ret
        exact ⟨rb HF.out.symm, rfl⟩
      · have q := b8nt _ _ h2
        have HF : Hid (r = true) := by unfold Hid; rw [HR2.out, Bool.true_and, decide_eq_true (by simp; omega)]
        clear HR2 h2
        go_enter Tryz.func149, Tryz.ntmps149
        go_wp2_with fail
        refine HD.out.mono ?_
        rintro e w' ⟨rfl, rfl⟩
        go_wp2_with fail
        go_ret
        exact ⟨rb HF.out.symm, rfl⟩
/-- What is left behind the zeros' removal. -/
def TrimPost (s : ByteArray) (w : World) (e : Ending) (w' : World) : Prop := ∃ t : ByteArray, e = .returned (.string t) ∧ t.size + tz (L s) = s.size ∧ L t = (L s).take t.size ∧ w = w'
theorem trimByte_any (s : ByteArray) (w : World) (hs : s.size ≤ 1000000000) :
    Calls Tryz.prog 181 #[.string s, .int .u8 48] w (TrimPost s w) := by
  go_enter Tryz.func181, Tryz.ntmps181
  go_wp2_with fail
  go_loop [0] (fun v => ∃ t : ByteArray, v = .string t ∧ t.size ≤ s.size ∧ Hid (L t = (L s).take t.size ∧ tz (L s) = (s.size - t.size) + tz (L t))) (fun v => match v with | .string t => t.size | _ => 0)
  case atStart => exact ⟨s, rfl, Nat.le_refl _, by rw [List.take_of_length_le (by rw [L_len]; exact Nat.le_refl _)], by rw [Nat.sub_self, Nat.zero_add]⟩
  case round =>
    obtain ⟨t, rfl, hts, HC⟩ := hrel
    by_cases h0 : t.size = 0
    · have HF : Hid (TrimPost s w (.returned (.string t)) w) := by
        refine ⟨t, rfl, ?_, HC.out.1, rfl⟩
        have : L t = [] := List.length_eq_zero_iff.1 ((L_len t).trans h0)
        have h := HC.out.2
        rw [this] at h
        have h3 : tz ([] : List UInt8) = 0 := rfl
        omega
      have h0i : ¬ (0 : Int) < t.size := by omega
      have h0n : ¬ 0 < t.size := by omega
      clear h0 HC
      go_wp2_with fail
      go_ret
      exact HF.out
    · have hp : t.size - 1 < t.size := by omega
      have h0i : (0 : Int) < t.size := by omega
      have h0n : 0 < t.size := by omega
      have hi0 : (0 : Int) ≤ (t.size : Int) - 1 := by omega
      have hi1 : (t.size : Int) - 1 < t.size := by omega
      have hi2 : ((t.size : Int) - 1).toNat = t.size - 1 := by omega
      have hl : L t = (L t).take (t.size - 1) ++ [t[t.size - 1]] := by
        have := L_take_succ t (t.size - 1) hp
        rw [show t.size - 1 + 1 = t.size by omega, List.take_of_length_le (by rw [L_len]; omega)] at this
        exact this
      have HT : Hid (tz (L t) = if (t[t.size - 1]).toNat = 48 then tz ((L t).take (t.size - 1)) + 1 else 0) := by
        unfold Hid
        have h2 := tz_snoc ((L t).take (t.size - 1)) t[t.size - 1]
        rw [← hl] at h2
        exact h2
      clear hl
      by_cases h1 : (t[t.size - 1]).toNat = 48
      · have hx : L (t.extract 0 (t.size - 1)) = (L t).take (t.size - 1) := L_upto t (t.size - 1)
        have hz : (t.extract 0 (t.size - 1)).size = t.size - 1 := by rw [← L_len, hx, List.length_take, L_len]; omega
        have HN : Hid (L (t.extract 0 (t.size - 1)) = (L s).take (t.extract 0 (t.size - 1)).size ∧ tz (L s) = (s.size - (t.extract 0 (t.size - 1)).size) + tz (L (t.extract 0 (t.size - 1)))) := by
          unfold Hid
          rw [hz, hx]
          refine ⟨?_, ?_⟩
          · rw [HC.out.1, List.take_take, Nat.min_eq_left (by omega)]
          · have h2 := HT.out
            rw [if_pos h1] at h2
            have h3 := HC.out.2
            omega
        have HZ := Lib.hid hz
        have q := b8t t[t.size - 1] 48 (by omega)
        clear HT HC h1 hx hz h0
        go_wp2_with fail
        exact ⟨⟨t.extract 0 (t.size - 1), rfl, by rw [HZ.out]; omega, HN⟩, by simp only []; rw [HZ.out]; omega⟩
      · have HF : Hid (TrimPost s w (.returned (.string t)) w) := by
          refine ⟨t, rfl, ?_, HC.out.1, rfl⟩
          have h2 := HT.out
          rw [if_neg h1] at h2
          have h3 := HC.out.2
          omega
        have q := b8f t[t.size - 1] 48 (by omega)
        clear HT HC h1 h0
        go_wp2_with fail
        go_ret
        exact HF.out
theorem TrimRight0_any (s : ByteArray) (w : World) (hs : s.size ≤ 1000000000) :
    Calls Tryz.prog 148 #[.string s, .string ⟨#[48]⟩] w (TrimPost s w) := by
  have HT := Lib.hid (trimByte_any s w hs)
  by_cases h0 : L s = []
  · have HF : Hid (TrimPost s w (.returned (.string s)) w) := by
      refine ⟨s, rfl, ?_, by rw [List.take_of_length_le (by rw [L_len]; exact Nat.le_refl _)], rfl⟩
      rw [h0]
      rfl
    have hq := isE.2 h0
    clear h0 HT
    go_enter Tryz.func148, Tryz.ntmps148
    go_wp2_with fail
    go_ret
    exact HF.out
  · have hq : s.toList.isEmpty = false := by rw [Bool.eq_false_iff]; exact fun h => h0 (isE.1 h)
    clear h0
    go_enter Tryz.func148, Tryz.ntmps148
    go_wp2_with fail
    refine HT.out.mono ?_
    rintro e w1 ⟨t, rfl, h1, h2, rfl⟩
    have HF : Hid (TrimPost s w (.returned (.string t)) w) := ⟨t, rfl, h1, h2, rfl⟩
    clear h1 h2
    go_wp2_with fail
    go_ret
    exact HF.out
theorem dZeros_any (s : ByteArray) (w : World) (hs : s.size ≤ 1000000000) :
    Calls Tryz.prog 150 #[.string s] w fun e w' => e = .returned (.int .i64 (tz (L s))) ∧ w = w' := by
  have HT := Lib.hid (TrimRight0_any s w hs)
  go_enter Tryz.func150, Tryz.ntmps150
  go_wp2_with fail
  refine HT.out.mono ?_
  rintro e w1 ⟨t, rfl, h1, h2, rfl⟩
  have HF : Hid (((s.size : Int) - t.size) = (tz (L s) : Nat)) := by unfold Hid; omega
  have hb1 : (t.size : Int) ≤ s.size := by omega
  clear h1 h2
  go_wp2_with fail
  go_ret
  exact ⟨by rw [← HF.out]; rfl, rfl⟩
theorem decValid_any (neg : Bool) (s : ByteArray) (e : Int) (w : World) (hs : s.size ≤ 1000000000) :
    Calls Tryz.prog 115 #[.agg #[.bool neg, .string s, .int .i64 e]] w fun en w' => en = .returned (.bool (decB neg (L s) e)) ∧ Below w.heap.size w w' := by
  have HV := Lib.hid (fun w => dValid_any s w hs)
  have HZ := Lib.hid (fun w => dZeros_any s w hs)
  have hb : ∀ x, Below w.heap.size w (w.alloc x) := fun x => (Below.refl _ _).alloc (Nat.le_refl _) _
  have HB := Lib.hid hb; clear hb
  obtain ⟨r, hr⟩ : ∃ r, r = decB neg (L s) e := ⟨_, rfl⟩
  rw [← hr]
  unfold decB at hr
  have hlen := L_len s
  by_cases h0 : L s = []
  · rw [if_pos h0] at hr
    have HR := Lib.hid hr
    have hq := isE.2 h0
    have hq2 : s.toList = [] := List.isEmpty_iff.1 hq
    clear hr h0 hlen HV HZ
    cases neg with
    | true =>
      go_enter Tryz.func115, Tryz.ntmps115
      go_wp2_with fail
      go_ret
      exact ⟨rb (by rw [HR.out]; rfl), HB.out _⟩
    | false =>
      go_enter Tryz.func115, Tryz.ntmps115
      go_wp2_with fail
      all_goals
        go_ret
        refine ⟨rb ?_, HB.out _⟩
        rw [HR.out]
        simp_all
  rw [if_neg h0] at hr
  rw [hlen] at hr
  have hq : s.toList.isEmpty = false := by rw [Bool.eq_false_iff]; exact fun h => h0 (isE.1 h)
  clear h0 hlen
  have HR := Lib.hid hr
  clear hr
  generalize natB (L s) = nb at *
  have hz1 := tz_le (L s)
  rw [L_len] at hz1
  generalize tz (L s) = z at *
  cases nb with
  | false =>
    have HF : Hid (r = false) := by unfold Hid; rw [HR.out, Bool.false_and, Bool.and_false]
    clear HR
    go_enter Tryz.func115, Tryz.ntmps115
    go_wp2_with fail
    refine (HV.out _).mono ?_
    rintro en w' ⟨rfl, rfl⟩
    go_wp2_with fail
    go_ret
    exact ⟨rb HF.out.symm, HB.out _⟩
  | true =>
    by_cases h1 : s.size ≤ 120
    case neg =>
      have HF : Hid (r = false) := by unfold Hid; rw [HR.out, decide_eq_false h1]; rfl
      have h1i : ¬ (s.size : Int) ≤ 120 := by omega
      clear HR h1
      go_enter Tryz.func115, Tryz.ntmps115
      go_wp2_with fail
      refine (HV.out _).mono ?_
      rintro en w' ⟨rfl, rfl⟩
      go_wp2_with fail
      go_ret
      exact ⟨rb HF.out.symm, HB.out _⟩
    have h1i : (s.size : Int) ≤ 120 := by omega
    have HR2 : Hid (r = (decide (z = 0) && decide (-400 ≤ e ∧ e ≤ 400))) := by unfold Hid; rw [HR.out, decide_eq_true h1]; rfl
    clear HR h1
    by_cases h2 : z = 0
    · subst h2
      have HF : Hid (r = decide (-400 ≤ e ∧ e ≤ 400)) := by unfold Hid; rw [HR2.out]; rfl
      clear HR2
      go_enter Tryz.func115, Tryz.ntmps115
      go_wp2_with fail
      refine (HV.out _).mono ?_
      rintro en w' ⟨rfl, rfl⟩
      go_wp2_with fail
      refine (HZ.out _).mono ?_
      rintro en w' ⟨rfl, rfl⟩
      go_wp2_with fail
      all_goals
        go_ret
        exact ⟨rb (by rw [HF.out, Bool.eq_iff_iff]; simp; omega), HB.out _⟩
    · have HF : Hid (r = false) := by unfold Hid; rw [HR2.out, decide_eq_false h2]; rfl
      have hq2 : ((z : Int) == 0) = false := by rw [beq_eq_false_iff_ne]; omega
      clear HR2 h2
      go_enter Tryz.func115, Tryz.ntmps115
      go_wp2_with fail
      refine (HV.out _).mono ?_
      rintro en w' ⟨rfl, rfl⟩
      go_wp2_with fail
      refine (HZ.out _).mono ?_
      rintro en w' ⟨rfl, rfl⟩
      go_wp2_with fail
      go_ret
      exact ⟨rb HF.out.symm, HB.out _⟩
theorem momValid_any (k d n o : Int) (w : World) :
    Calls Tryz.prog 116 #[.agg #[.int .i64 k, .int .i64 d, .int .i64 n, .int .i64 o]] w fun en w' => en = .returned (.bool (timeB k d n o)) ∧ Below w.heap.size w w' := by
  have hb : ∀ x, Below w.heap.size w (w.alloc x) := fun x => (Below.refl _ _).alloc (Nat.le_refl _) _
  have HB := Lib.hid hb; clear hb
  obtain ⟨r, hr⟩ : ∃ r, r = timeB k d n o := ⟨_, rfl⟩
  rw [← hr]
  unfold timeB at hr
  have HR := Lib.hid hr
  clear hr
  by_cases hk : 1 ≤ k ∧ k ≤ 4 ∧ 0 ≤ d ∧ d ≤ 3652058 ∧ 0 ≤ n ∧ n ≤ 86399999999999 ∧ -1439 ≤ o ∧ o ≤ 1439
  case neg =>
    have HF : Hid (r = false) := by unfold Hid; rw [HR.out]; exact decide_eq_false (by omega)
    have HK := Lib.hid hk
    clear HR hk
    go_enter Tryz.func116, Tryz.ntmps116
    go_upto_region 1 with fail
    go_cut [40] (fun v wx => v = .bool true ∧ wx = w.alloc (.cells #[.int .i64 k, .int .i64 d, .int .i64 n, .int .i64 o] 25))
    case first =>
      go_wp2_with fail
      all_goals
        go_meet
        refine ⟨?_, rfl⟩
        have := HK.out
        first
          | rfl
          | (congr 1; simp; omega)
          | (exfalso; omega)
    case rest =>
    obtain ⟨rfl, rfl⟩ := hcut
    go_wp2_with fail
    go_ret
    exact ⟨rb HF.out.symm, HB.out _⟩
  obtain ⟨h1, h2, h3, h4, h5, h6, h7, h8⟩ := hk
  have HF : Hid (r = decide ((k = 1 ∨ k = 3 ∨ k = 4 ∨ d = 0) ∧ (k = 2 ∨ k = 3 ∨ k = 4 ∨ n = 0) ∧ (k = 4 ∨ o = 0))) := by
    unfold Hid
    rw [HR.out, decide_eq_decide]
    omega
  clear HR
  go_enter Tryz.func116, Tryz.ntmps116
  go_upto_region 1 with fail
  go_cut [40] (fun v wx => v = .bool false ∧ wx = w.alloc (.cells #[.int .i64 k, .int .i64 d, .int .i64 n, .int .i64 o] 25))
  case first =>
    go_wp2_with fail
    all_goals
      go_meet
      refine ⟨?_, rfl⟩
      first
        | rfl
        | (congr 1; simp; omega)
        | (exfalso; omega)
  case rest =>
  obtain ⟨rfl, rfl⟩ := hcut
  rcases (by omega : k = 1 ∨ k = 2 ∨ k = 3 ∨ k = 4) with rfl | rfl | rfl | rfl
  all_goals
    go_wp2_with fail
    all_goals
      go_ret
      refine ⟨rb ?_, HB.out _⟩
      rw [HF.out, Bool.eq_iff_iff]
      first
        | (simp; omega)
        | (simp_all; done)
        | (simp_all; omega)
end Go.Proofs.YthdninnjjmhpfaaGreatDoor
