/- datakitref02.run, normal, power walked. Conditions: at most 100000 bytes. -/
import Derived.Test.YtmafggfonapmpaaDoorNd4
namespace Go.Proofs.YtmafggfonapmpaaDoor
open Go.RowKit
set_option maxHeartbeats 4000000
set_option maxRecDepth 100000

theorem run2_any (s : ByteArray) (i : Nat) (w : World) (hs : s.size ≤ 1000000000) (hi : i ≤ s.size) :
    Calls Tryd.prog 29 #[.string s, .int .i64 i] w fun e w' => e = .returned (.int .i64 ((i + runL ((L s).drop i) : Nat) : Int)) ∧ w = w' := by
  obtain ⟨R, hR⟩ : ∃ R, R = i + runL ((L s).drop i) := ⟨_, rfl⟩
  rw [← hR]
  have HR0 := Lib.hid hR
  clear hR
  go_enter Tryd.func29, Tryd.ntmps29
  go_wp2_with fail
  go_loop [1] (fun n => ∃ k : Nat, k ≤ s.size ∧ n = .int .i64 k ∧ Hid (R = k + runL ((L s).drop k))) (fun n => s.size - (intOf n).toNat)
  case atStart => exact ⟨i, hi, rfl, HR0.out⟩
  case round =>
    clear HR0
    obtain ⟨k, hk, rfl, hr⟩ := hrel
    by_cases hlt : k < s.size
    · have HR : Hid (runL ((L s).drop k) = if dig s[k] then runL ((L s).drop (k + 1)) + 1 else 0) := by
        unfold Hid; rw [L_drop s k hlt, runL]
      by_cases h1 : (s[k]).toNat < 48
      · have hd : dig s[k] = false := by unfold dig; simp; omega
        have HF : Hid (R = k) := by unfold Hid; rw [hr.out, HR.out, hd]; rfl
        have h1i : ¬ (48 : Int) ≤ ((s[k]).toNat : Int) := by omega
        clear HR hr hd h1
        go_wp2_with fail
        go_ret
        exact ⟨ri (by rw [HF.out]), rfl⟩
      by_cases h2 : 57 < (s[k]).toNat
      · have hd : dig s[k] = false := by unfold dig; simp; omega
        have HF : Hid (R = k) := by unfold Hid; rw [hr.out, HR.out, hd]; rfl
        have h1i : (48 : Int) ≤ ((s[k]).toNat : Int) := by omega
        have h2i : ¬ ((s[k]).toNat : Int) ≤ 57 := by omega
        clear HR hr hd h1 h2
        go_wp2_with fail
        go_ret
        exact ⟨ri (by rw [HF.out]), rfl⟩
      · have hd : dig s[k] = true := by unfold dig; simp; omega
        have HF : Hid (R = k + 1 + runL ((L s).drop (k + 1))) := by unfold Hid; rw [hr.out, HR.out, hd, if_pos rfl]; omega
        have h1i : (48 : Int) ≤ ((s[k]).toNat : Int) := by omega
        have h2i : ((s[k]).toNat : Int) ≤ 57 := by omega
        clear HR hr hd h1 h2
        go_wp2_with fail
        exact ⟨⟨k + 1, by omega, by go_num, HF⟩, by simp [intOf]; omega⟩
    · have HZ : Hid (runL ((L s).drop k) = 0) := by unfold Hid; rw [L_drop_nil s k (by omega)]; rfl
      have HF : Hid (R = k) := by unfold Hid; rw [hr.out, HZ.out]; rfl
      clear HZ hr
      go_wp2_with fail
      go_ret
      exact ⟨ri (by rw [HF.out]), rfl⟩
theorem normal_any (ng : Bool) (s : ByteArray) (x : Int) (w : World) (hs : s.size ≤ 1000000000) (hx1 : -3000000000000 ≤ x) (hx2 : x ≤ 3000000000000) :
    Calls Tryd.prog 31 #[.bool ng, .string s, .int .i64 x] w (DecPost w (normL ng (L s) x)) := by
  have hbw : ∀ X, Below w.heap.size w (w.alloc X) := fun X => (Below.refl _ _).alloc (Nat.le_refl _) _
  have HB := Lib.hid hbw; clear hbw
  have HST := Lib.hid (fun w => Strip_any s w hs)
  obtain ⟨r, hr⟩ : ∃ r, r = normL ng (L s) x := ⟨_, rfl⟩
  rw [← hr]
  unfold normL at hr
  have HR0 := Lib.hid hr
  clear hr
  go_enter Tryd.func31, Tryd.ntmps31
  go_wp2_with fail
  refine (HST.out _).mono ?_
  rintro e w1 ⟨t, rfl, ht, rfl⟩
  have hts : t.size ≤ 1000000000 := by have h1 := zl_le (L s); have h2 := sz_of ht; rw [L_len] at h1; omega
  rw [← ht] at HR0
  clear HST ht
  by_cases h0 : L t = []
  · have HF : Hid (∀ w', Below w.heap.size w w' → DecPost w r (.returned (.tuple #[.agg #[.bool false, .string ⟨#[]⟩, .int .i64 0], .int .i64 0])) w') := fun w' hb => decPost_of (by rw [HR0.out]; unfold normS; rw [if_pos h0]; rfl) (by decide) hb
    have hq := isEm.2 h0
    clear h0 HR0
    go_wp2_with fail
    exact bodyPost_ret (v := .tuple #[.agg #[.bool false, .string ⟨#[]⟩, .int .i64 0], .int .i64 0]) (by simp [results, Tryd.results31, go_sem]) rfl (HF.out _ (HB.out _))
  have hq : t.toList.isEmpty = false := by rw [Bool.eq_false_iff]; exact fun h => h0 (isEm.1 h)
  have HR : Hid (r = if 400 < x + tz (L t) ∨ x + tz (L t) < -400 ∨ 120 < (L t).length - tz (L t) then badR 2 else ⟨ng, (L t).take ((L t).length - tz (L t)), x + tz (L t), 0⟩) := by unfold Hid; rw [HR0.out]; unfold normS; rw [if_neg h0]
  clear h0 HR0
  have HZ := Lib.hid (fun w => Zeros1_any t w hts)
  have htz := tz_le (L t)
  rw [L_len] at htz
  generalize tz (L t) = z at *
  obtain ⟨v, hv⟩ : ∃ v, v = t.extract 0 (t.size - z) := ⟨_, rfl⟩
  have hvL : L v = (L t).take (t.size - z) := by rw [hv, L_extract, List.drop_zero, Nat.sub_zero]
  have hvs : v.size = t.size - z := by rw [sz_of hvL, List.length_take, L_len]; omega
  have HR2 : Hid (r = if 400 < x + z ∨ x + z < -400 ∨ 120 < v.size then badR 2 else ⟨ng, L v, x + z, 0⟩) := by
    unfold Hid
    rw [HR.out, L_len, ← hvL, ← hvs]
  have e2 : (t.size : Int) - (z : Int) = ((t.size - z : Nat) : Int) := by omega
  have hV := hv.symm
  have HVS := Lib.hid hvs
  clear HR hvL hv
  go_wp2_with fail
  refine (HZ.out _).mono ?_
  rintro e w1 ⟨rfl, rfl⟩
  have hzt : (z : Int) ≤ t.size := by omega
  have hz0 : z ≤ 1000000000 := by omega
  clear HZ
  go_upto_region 6 with fail
  try rw [hV]
  clear hV hzt e2
  have hvi : v.size ≤ 1000000000 := by have := HVS.out; omega
  clear HVS htz hvs
  by_cases c3 : 120 < v.size
  · have c3i : (120 : Int) < v.size := by omega
    have HF : Hid (∀ w', Below w.heap.size w w' → DecPost w r (.returned (.tuple #[.agg #[.bool false, .string ⟨#[]⟩, .int .i64 0], .int .i64 2])) w') := fun w' hb => decPost_of (by rw [HR2.out, if_pos (.inr (.inr c3))]; rfl) (by decide) hb
    clear HR2 c3
    go_wp2_with fail
    exact bodyPost_ret (v := .tuple #[.agg #[.bool false, .string ⟨#[]⟩, .int .i64 0], .int .i64 2]) (by simp [results, Tryd.results31, go_sem]) rfl (HF.out _ (HB.out _))
  have c3f : ((120 : Int) < (v.size : Int)) = False := eq_false (by omega)
  by_cases c0 : 400 < x
  · have c0f : ((400 : Int) < x) = True := eq_true c0
    have HF : Hid (∀ w', Below w.heap.size w w' → DecPost w r (.returned (.tuple #[.agg #[.bool false, .string ⟨#[]⟩, .int .i64 0], .int .i64 2])) w') := fun w' hb => decPost_of (by rw [HR2.out, if_pos (.inl (by omega))]; rfl) (by decide) hb
    clear HR2 c3 c0
    go_wp2_with fail
    exact bodyPost_ret (v := .tuple #[.agg #[.bool false, .string ⟨#[]⟩, .int .i64 0], .int .i64 2]) (by simp [results, Tryd.results31, go_sem]) rfl (HF.out _ (HB.out _))
  have c0f : ((400 : Int) < x) = False := eq_false c0
  by_cases c1 : 400 < x + (z : Int)
  · have c1f : ((400 : Int) < x + (z : Int)) = True := eq_true c1
    have HF : Hid (∀ w', Below w.heap.size w w' → DecPost w r (.returned (.tuple #[.agg #[.bool false, .string ⟨#[]⟩, .int .i64 0], .int .i64 2])) w') := fun w' hb => decPost_of (by rw [HR2.out, if_pos (.inl c1)]; rfl) (by decide) hb
    clear HR2 c3 c0 c1
    go_wp2_with fail
    exact bodyPost_ret (v := .tuple #[.agg #[.bool false, .string ⟨#[]⟩, .int .i64 0], .int .i64 2]) (by simp [results, Tryd.results31, go_sem]) rfl (HF.out _ (HB.out _))
  have c1f : ((400 : Int) < x + (z : Int)) = False := eq_false c1
  by_cases c2 : x + (z : Int) < -400
  · have c2f : (x + (z : Int) < -400) = True := eq_true c2
    have HF : Hid (∀ w', Below w.heap.size w w' → DecPost w r (.returned (.tuple #[.agg #[.bool false, .string ⟨#[]⟩, .int .i64 0], .int .i64 2])) w') := fun w' hb => decPost_of (by rw [HR2.out, if_pos (.inr (.inl c2))]; rfl) (by decide) hb
    clear HR2 c3 c0 c1 c2
    go_wp2_with fail
    exact bodyPost_ret (v := .tuple #[.agg #[.bool false, .string ⟨#[]⟩, .int .i64 0], .int .i64 2]) (by simp [results, Tryd.results31, go_sem]) rfl (HF.out _ (HB.out _))
  have c2f : (x + (z : Int) < -400) = False := eq_false c2
  have HF : Hid (∀ w', Below w.heap.size w w' → DecPost w r (.returned (.tuple #[.agg #[.bool ng, .string v, .int .i64 (x + z)], .int .i64 0])) w') := fun w' hb => decPost_of (by rw [HR2.out, if_neg (fun h => h.elim c1 (fun h => h.elim c2 c3))]; rfl) (by decide) hb
  clear HR2 c3 c0 c1 c2
  go_wp2_with fail
  exact bodyPost_ret (v := .tuple #[.agg #[.bool ng, .string v, .int .i64 (x + z)], .int .i64 0]) (by simp [results, Tryd.results31, go_sem]) rfl (HF.out _ (HB.out _))
theorem power_any (s : ByteArray) (w : World) (hs : s.size ≤ 1000000000) (ha : (L s).all dig = true) :
    Calls Tryd.prog 30 #[.string s] w fun e w' => e = .returned (.int .i64 (numR (L s))) ∧ w = w' := by
  have HST := Lib.hid (fun w => Strip_any s w hs)
  have HA : Hid (∀ b ∈ zl (L s), dig b = true) := zl_all _ (List.all_eq_true.1 ha)
  have HH : Hid (∀ b tl, zl (L s) = b :: tl → b.toNat ≠ 48) := fun b tl h => zl_head _ b tl h
  obtain ⟨R, hR⟩ : ∃ R, R = numR (L s) := ⟨_, rfl⟩
  rw [← hR]
  unfold numR at hR
  have HR := Lib.hid hR
  clear hR ha
  go_enter Tryd.func30, Tryd.ntmps30
  go_wp2_with fail
  refine (HST.out _).mono ?_
  rintro e w1 ⟨t, rfl, ht, rfl⟩
  clear HST
  rw [← ht] at HR HA HH
  clear ht
  have HR2 : Hid (R = if 9 < t.size then 1000000000 else (valL 0 (L t) : Int)) := by unfold Hid; rw [HR.out, L_len]
  clear HR
  by_cases h9 : 9 < t.size
  · have HF := Lib.hid (HR2.out.trans (if_pos h9))
    have h9i : (9 : Int) < t.size := by omega
    clear HR2 h9 HA HH
    go_wp2_with fail
    go_ret
    exact ⟨ri (by rw [HF.out]), rfl⟩
  have HF := Lib.hid (HR2.out.trans (if_neg h9))
  have hnat : natB (L t) = true := by
    unfold natB
    rw [Bool.and_eq_true, Bool.and_eq_true, decide_eq_true_iff, decide_eq_true_iff]
    refine ⟨by rw [L_len]; omega, List.all_eq_true.2 HA.out, ?_⟩
    rcases hz : L t with _ | ⟨b, tl⟩
    · simp
    · have := HH.out _ _ hz
      simpa using this
  have HV := Lib.hid (fun w => RToInt_any t w (by omega) hnat)
  have h9i : ¬ (9 : Int) < t.size := by omega
  clear HR2 h9 HA HH hnat
  go_wp2_with fail
  refine (HV.out _).mono ?_
  rintro e w1 ⟨rfl, rfl⟩
  clear HV
  generalize valL 0 (L t) = n at *
  go_wp2_with fail
  go_ret
  exact ⟨ri (by rw [HF.out]), rfl⟩
end Go.Proofs.YtmafggfonapmpaaDoor
