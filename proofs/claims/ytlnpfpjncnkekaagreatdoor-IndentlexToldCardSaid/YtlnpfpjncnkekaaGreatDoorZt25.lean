/- digits.all, Valid, Zeros, decimal.Valid, moment.Valid (and strings.TrimRight at one zero) walked. Conditions: none. -/
import Derived.Test.YtlnpfpjncnkekaaGreatDoorZt23
namespace Go.Proofs.YtlnpfpjncnkekaaGreatDoor
open Go.RowKit
set_option maxHeartbeats 1000000
set_option maxRecDepth 100000

theorem dZeros_any (s : ByteArray) (w : World) (hs : s.size ≤ 1000000000) :
    Calls Tryz.prog 91 #[.string s] w fun e w' => e = .returned (.int .i64 (tz (L s))) ∧ w = w' := by
  have HT := Lib.hid (TrimRight0_any s w hs)
  go_enter Tryz.func91, Tryz.ntmps91
  go_wp2_with fail
  refine HT.out.mono ?_
  rintro e w1 ⟨t, rfl, h1, h2, rfl⟩
  have HF : Hid (((s.size : Int) - t.size) = (tz (L s) : Nat)) := by unfold Hid; omega
  have hb1 : (t.size : Int) ≤ s.size := by omega
  clear h1 h2
  go_wp2_with fail
  go_ret
  exact ⟨by rw [← HF.out]; rfl, rfl⟩
theorem decValid_any (neg : Bool) (s : ByteArray) (e : Int) (w : World) (hs : s.size ≤ 1000000000) :
    Calls Tryz.prog 44 #[.agg #[.bool neg, .string s, .int .i64 e]] w fun en w' => en = .returned (.bool (decB neg (L s) e)) ∧ Below w.heap.size w w' := by
  have HV := Lib.hid (fun w => dValid_any s w hs)
  have HZ := Lib.hid (fun w => dZeros_any s w hs)
  have hb : ∀ x, Below w.heap.size w (w.alloc x) := fun x => (Below.refl _ _).alloc (Nat.le_refl _) _
  have HB := Lib.hid hb; clear hb
  obtain ⟨r, hr⟩ : ∃ r, r = decB neg (L s) e := ⟨_, rfl⟩
  rw [← hr]
  unfold decB at hr
  have hlen := L_len s
  by_cases h0 : L s = []
  · rw [if_pos h0] at hr
    have HR := Lib.hid hr
    have hq := isEh.2 h0
    have hq2 : s.toList = [] := List.isEmpty_iff.1 hq
    clear hr h0 hlen HV HZ
    cases neg with
    | true =>
      go_enter Tryz.func44, Tryz.ntmps44
      go_wp2_with fail
      go_ret
      exact ⟨rb (by rw [HR.out]; rfl), HB.out _⟩
    | false =>
      go_enter Tryz.func44, Tryz.ntmps44
      go_wp2_with fail
      all_goals
        go_ret
        refine ⟨rb ?_, HB.out _⟩
        rw [HR.out]
        simp_all
  rw [if_neg h0] at hr
  rw [hlen] at hr
  have hq : s.toList.isEmpty = false := by rw [Bool.eq_false_iff]; exact fun h => h0 (isEh.1 h)
  clear h0 hlen
  have HR := Lib.hid hr
  clear hr
  generalize natB (L s) = nb at *
  have hz1 := tz_le (L s)
  rw [L_len] at hz1
  generalize tz (L s) = z at *
  cases nb with
  | false =>
    have HF : Hid (r = false) := by unfold Hid; rw [HR.out, Bool.false_and, Bool.and_false]
    clear HR
    go_enter Tryz.func44, Tryz.ntmps44
    go_wp2_with fail
    refine (HV.out _).mono ?_
    rintro en w' ⟨rfl, rfl⟩
    go_wp2_with fail
    go_ret
    exact ⟨rb HF.out.symm, HB.out _⟩
  | true =>
    by_cases h1 : s.size ≤ 120
    case neg =>
      have HF : Hid (r = false) := by unfold Hid; rw [HR.out, decide_eq_false h1]; rfl
      have h1i : ¬ (s.size : Int) ≤ 120 := by omega
      clear HR h1
      go_enter Tryz.func44, Tryz.ntmps44
      go_wp2_with fail
      refine (HV.out _).mono ?_
      rintro en w' ⟨rfl, rfl⟩
      go_wp2_with fail
      go_ret
      exact ⟨rb HF.out.symm, HB.out _⟩
    have h1i : (s.size : Int) ≤ 120 := by omega
    have HR2 : Hid (r = (decide (z = 0) && decide (-400 ≤ e ∧ e ≤ 400))) := by unfold Hid; rw [HR.out, decide_eq_true h1]; rfl
    clear HR h1
    by_cases h2 : z = 0
    · subst h2
      have HF : Hid (r = decide (-400 ≤ e ∧ e ≤ 400)) := by unfold Hid; rw [HR2.out]; rfl
      clear HR2
      go_enter Tryz.func44, Tryz.ntmps44
      go_wp2_with fail
      refine (HV.out _).mono ?_
      rintro en w' ⟨rfl, rfl⟩
      go_wp2_with fail
      refine (HZ.out _).mono ?_
      rintro en w' ⟨rfl, rfl⟩
      go_wp2_with fail
      all_goals
        go_ret
        exact ⟨rb (by rw [HF.out, Bool.eq_iff_iff]; simp; omega), HB.out _⟩
    · have HF : Hid (r = false) := by unfold Hid; rw [HR2.out, decide_eq_false h2]; rfl
      have hq2 : ((z : Int) == 0) = false := by rw [beq_eq_false_iff_ne]; omega
      clear HR2 h2
      go_enter Tryz.func44, Tryz.ntmps44
      go_wp2_with fail
      refine (HV.out _).mono ?_
      rintro en w' ⟨rfl, rfl⟩
      go_wp2_with fail
      refine (HZ.out _).mono ?_
      rintro en w' ⟨rfl, rfl⟩
      go_wp2_with fail
      go_ret
      exact ⟨rb HF.out.symm, HB.out _⟩
theorem momValid_any (k d n o : Int) (w : World) :
    Calls Tryz.prog 47 #[.agg #[.int .i64 k, .int .i64 d, .int .i64 n, .int .i64 o]] w fun en w' => en = .returned (.bool (timeB k d n o)) ∧ Below w.heap.size w w' := by
  have hb : ∀ x, Below w.heap.size w (w.alloc x) := fun x => (Below.refl _ _).alloc (Nat.le_refl _) _
  have HB := Lib.hid hb; clear hb
  obtain ⟨r, hr⟩ : ∃ r, r = timeB k d n o := ⟨_, rfl⟩
  rw [← hr]
  unfold timeB at hr
  have HR := Lib.hid hr
  clear hr
  by_cases hk : 1 ≤ k ∧ k ≤ 4 ∧ 0 ≤ d ∧ d ≤ 3652058 ∧ 0 ≤ n ∧ n ≤ 86399999999999 ∧ -1439 ≤ o ∧ o ≤ 1439
  case neg =>
    have HF : Hid (r = false) := by unfold Hid; rw [HR.out]; exact decide_eq_false (by omega)
    have HK := Lib.hid hk
    clear HR hk
    go_enter Tryz.func47, Tryz.ntmps47
    go_upto_region 1 with fail
    go_cut [40] (fun v wx => v = .bool true ∧ wx = w.alloc (.cells #[.int .i64 k, .int .i64 d, .int .i64 n, .int .i64 o] 25))
    case first =>
      go_wp2_with fail
      all_goals
        go_meet
        refine ⟨?_, rfl⟩
        have := HK.out
        first
          | rfl
          | (congr 1; simp; omega)
          | (exfalso; omega)
    case rest =>
    obtain ⟨rfl, rfl⟩ := hcut
    go_wp2_with fail
    go_ret
    exact ⟨rb HF.out.symm, HB.out _⟩
  obtain ⟨h1, h2, h3, h4, h5, h6, h7, h8⟩ := hk
  have HF : Hid (r = decide ((k = 1 ∨ k = 3 ∨ k = 4 ∨ d = 0) ∧ (k = 2 ∨ k = 3 ∨ k = 4 ∨ n = 0) ∧ (k = 4 ∨ o = 0))) := by
    unfold Hid
    rw [HR.out, decide_eq_decide]
    omega
  clear HR
  go_enter Tryz.func47, Tryz.ntmps47
  go_upto_region 1 with fail
  go_cut [40] (fun v wx => v = .bool false ∧ wx = w.alloc (.cells #[.int .i64 k, .int .i64 d, .int .i64 n, .int .i64 o] 25))
  case first =>
    go_wp2_with fail
    all_goals
      go_meet
      refine ⟨?_, rfl⟩
      first
        | rfl
        | (congr 1; simp; omega)
        | (exfalso; omega)
  case rest =>
  obtain ⟨rfl, rfl⟩ := hcut
  rcases (by omega : k = 1 ∨ k = 2 ∨ k = 3 ∨ k = 4) with rfl | rfl | rfl | rfl
  all_goals
    go_wp2_with fail
    all_goals
      go_ret
      refine ⟨rb ?_, HB.out _⟩
      rw [HF.out, Bool.eq_iff_iff]
      first
        | (simp; omega)
        | (simp_all; done)
        | (simp_all; omega)
end Go.Proofs.YtlnpfpjncnkekaaGreatDoor
