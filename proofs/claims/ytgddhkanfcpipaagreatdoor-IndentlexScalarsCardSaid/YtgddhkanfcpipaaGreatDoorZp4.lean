/- datakitref02.Parse walked. Conditions: at most 100000 bytes. -/
import Derived.Test.YtgddhkanfcpipaaGreatDoorZk11
namespace Go.Proofs.YtgddhkanfcpipaaGreatDoor
open Go.RowKit
set_option maxHeartbeats 4000000
set_option maxRecDepth 100000

theorem run2_any (s : ByteArray) (i : Nat) (w : World) (hs : s.size ≤ 1000000000) (hi : i ≤ s.size) :
    Calls Tryz.prog 99 #[.string s, .int .i64 i] w fun e w' => e = .returned (.int .i64 ((i + runL ((L s).drop i) : Nat) : Int)) ∧ w = w' := by
  obtain ⟨R, hR⟩ : ∃ R, R = i + runL ((L s).drop i) := ⟨_, rfl⟩
  rw [← hR]
  have HR0 := Lib.hid hR
  clear hR
  go_enter Tryz.func99, Tryz.ntmps99
  go_wp2_with fail
  go_loop [1] (fun n => ∃ k : Nat, k ≤ s.size ∧ n = .int .i64 k ∧ Hid (R = k + runL ((L s).drop k))) (fun n => s.size - (intOf n).toNat)
  case atStart => exact ⟨i, hi, rfl, HR0.out⟩
  case round =>
    clear HR0
    obtain ⟨k, hk, rfl, hr⟩ := hrel
    by_cases hlt : k < s.size
    · have HR : Hid (runL ((L s).drop k) = if dig s[k] then runL ((L s).drop (k + 1)) + 1 else 0) := by
        unfold Hid; rw [L_drop s k hlt, runL]
      by_cases h1 : (s[k]).toNat < 48
      · have hd : dig s[k] = false := by unfold dig; simp; omega
        have HF : Hid (R = k) := by unfold Hid; rw [hr.out, HR.out, hd]; rfl
        have h1i : ¬ (48 : Int) ≤ ((s[k]).toNat : Int) := by omega
        clear HR hr hd h1
        go_wp2_with fail
        go_ret
        exact ⟨ri (by rw [HF.out]), rfl⟩
      by_cases h2 : 57 < (s[k]).toNat
      · have hd : dig s[k] = false := by unfold dig; simp; omega
        have HF : Hid (R = k) := by unfold Hid; rw [hr.out, HR.out, hd]; rfl
        have h1i : (48 : Int) ≤ ((s[k]).toNat : Int) := by omega
        have h2i : ¬ ((s[k]).toNat : Int) ≤ 57 := by omega
        clear HR hr hd h1 h2
        go_wp2_with fail
        go_ret
        exact ⟨ri (by rw [HF.out]), rfl⟩
      · have hd : dig s[k] = true := by unfold dig; simp; omega
        have HF : Hid (R = k + 1 + runL ((L s).drop (k + 1))) := by unfold Hid; rw [hr.out, HR.out, hd, if_pos rfl]; omega
        have h1i : (48 : Int) ≤ ((s[k]).toNat : Int) := by omega
        have h2i : ((s[k]).toNat : Int) ≤ 57 := by omega
        clear HR hr hd h1 h2
        go_wp2_with fail
        exact ⟨⟨k + 1, by omega, by go_num, HF⟩, by simp [intOf]; omega⟩
    · have HZ : Hid (runL ((L s).drop k) = 0) := by unfold Hid; rw [L_drop_nil s k (by omega)]; rfl
      have HF : Hid (R = k) := by unfold Hid; rw [hr.out, HZ.out]; rfl
      clear HZ hr
      go_wp2_with fail
      go_ret
      exact ⟨ri (by rw [HF.out]), rfl⟩
theorem normal_any (ng : Bool) (s : ByteArray) (x : Int) (w : World) (hs : s.size ≤ 1000000000) (hx1 : -3000000000000 ≤ x) (hx2 : x ≤ 3000000000000) :
    Calls Tryz.prog 101 #[.bool ng, .string s, .int .i64 x] w (DecPost w (normL ng (L s) x)) := by
  have hbw : ∀ X, Below w.heap.size w (w.alloc X) := fun X => (Below.refl _ _).alloc (Nat.le_refl _) _
  have HB := Lib.hid hbw; clear hbw
  have HST := Lib.hid (fun w => Strip_any s w hs)
  obtain ⟨r, hr⟩ : ∃ r, r = normL ng (L s) x := ⟨_, rfl⟩
  rw [← hr]
  unfold normL at hr
  have HR0 := Lib.hid hr
  clear hr
  go_enter Tryz.func101, Tryz.ntmps101
  go_wp2_with fail
  refine (HST.out _).mono ?_
  rintro e w1 ⟨t, rfl, ht, rfl⟩
  have hts : t.size ≤ 1000000000 := by have h1 := zl_le (L s); have h2 := sz_of ht; rw [L_len] at h1; omega
  rw [← ht] at HR0
  clear HST ht
  by_cases h0 : L t = []
  · have HF : Hid (∀ w', Below w.heap.size w w' → DecPost w r (.returned (.tuple #[.agg #[.bool false, .string ⟨#[]⟩, .int .i64 0], .int .i64 0])) w') := fun w' hb => decPost_of (by rw [HR0.out]; unfold normS; rw [if_pos h0]; rfl) (by decide) hb
    have hq := isEm.2 h0
    clear h0 HR0
    go_wp2_with fail
    exact bodyPost_ret (v := .tuple #[.agg #[.bool false, .string ⟨#[]⟩, .int .i64 0], .int .i64 0]) (by simp [results, Tryz.results101, go_sem]) rfl (HF.out _ (HB.out _))
  have hq : t.toList.isEmpty = false := by rw [Bool.eq_false_iff]; exact fun h => h0 (isEm.1 h)
  have HR : Hid (r = if 400 < x + tz (L t) ∨ x + tz (L t) < -400 ∨ 120 < (L t).length - tz (L t) then badR 2 else ⟨ng, (L t).take ((L t).length - tz (L t)), x + tz (L t), 0⟩) := by unfold Hid; rw [HR0.out]; unfold normS; rw [if_neg h0]
  clear h0 HR0
  have HZ := Lib.hid (fun w => Zeros1_any t w hts)
  have htz := tz_le (L t)
  rw [L_len] at htz
  generalize tz (L t) = z at *
  obtain ⟨v, hv⟩ : ∃ v, v = t.extract 0 (t.size - z) := ⟨_, rfl⟩
  have hvL : L v = (L t).take (t.size - z) := by rw [hv, L_extract, List.drop_zero, Nat.sub_zero]
  have hvs : v.size = t.size - z := by rw [sz_of hvL, List.length_take, L_len]; omega
  have HR2 : Hid (r = if 400 < x + z ∨ x + z < -400 ∨ 120 < v.size then badR 2 else ⟨ng, L v, x + z, 0⟩) := by
    unfold Hid
    rw [HR.out, L_len, ← hvL, ← hvs]
  have e2 : (t.size : Int) - (z : Int) = ((t.size - z : Nat) : Int) := by omega
  have hV := hv.symm
  have HVS := Lib.hid hvs
  clear HR hvL hv
  go_wp2_with fail
  refine (HZ.out _).mono ?_
  rintro e w1 ⟨rfl, rfl⟩
  have hzt : (z : Int) ≤ t.size := by omega
  have hz0 : z ≤ 1000000000 := by omega
  clear HZ
  go_upto_region 6 with fail
  try rw [hV]
  clear hV hzt e2
  have hvi : v.size ≤ 1000000000 := by have := HVS.out; omega
  clear HVS htz hvs
  by_cases c3 : 120 < v.size
  · have c3i : (120 : Int) < v.size := by omega
    have HF : Hid (∀ w', Below w.heap.size w w' → DecPost w r (.returned (.tuple #[.agg #[.bool false, .string ⟨#[]⟩, .int .i64 0], .int .i64 2])) w') := fun w' hb => decPost_of (by rw [HR2.out, if_pos (.inr (.inr c3))]; rfl) (by decide) hb
    clear HR2 c3
    go_wp2_with fail
    exact bodyPost_ret (v := .tuple #[.agg #[.bool false, .string ⟨#[]⟩, .int .i64 0], .int .i64 2]) (by simp [results, Tryz.results101, go_sem]) rfl (HF.out _ (HB.out _))
  have c3f : ((120 : Int) < (v.size : Int)) = False := eq_false (by omega)
  by_cases c0 : 400 < x
  · have c0f : ((400 : Int) < x) = True := eq_true c0
    have HF : Hid (∀ w', Below w.heap.size w w' → DecPost w r (.returned (.tuple #[.agg #[.bool false, .string ⟨#[]⟩, .int .i64 0], .int .i64 2])) w') := fun w' hb => decPost_of (by rw [HR2.out, if_pos (.inl (by omega))]; rfl) (by decide) hb
    clear HR2 c3 c0
    go_wp2_with fail
    exact bodyPost_ret (v := .tuple #[.agg #[.bool false, .string ⟨#[]⟩, .int .i64 0], .int .i64 2]) (by simp [results, Tryz.results101, go_sem]) rfl (HF.out _ (HB.out _))
  have c0f : ((400 : Int) < x) = False := eq_false c0
  by_cases c1 : 400 < x + (z : Int)
  · have c1f : ((400 : Int) < x + (z : Int)) = True := eq_true c1
    have HF : Hid (∀ w', Below w.heap.size w w' → DecPost w r (.returned (.tuple #[.agg #[.bool false, .string ⟨#[]⟩, .int .i64 0], .int .i64 2])) w') := fun w' hb => decPost_of (by rw [HR2.out, if_pos (.inl c1)]; rfl) (by decide) hb
    clear HR2 c3 c0 c1
    go_wp2_with fail
    exact bodyPost_ret (v := .tuple #[.agg #[.bool false, .string ⟨#[]⟩, .int .i64 0], .int .i64 2]) (by simp [results, Tryz.results101, go_sem]) rfl (HF.out _ (HB.out _))
  have c1f : ((400 : Int) < x + (z : Int)) = False := eq_false c1
  by_cases c2 : x + (z : Int) < -400
  · have c2f : (x + (z : Int) < -400) = True := eq_true c2
    have HF : Hid (∀ w', Below w.heap.size w w' → DecPost w r (.returned (.tuple #[.agg #[.bool false, .string ⟨#[]⟩, .int .i64 0], .int .i64 2])) w') := fun w' hb => decPost_of (by rw [HR2.out, if_pos (.inr (.inl c2))]; rfl) (by decide) hb
    clear HR2 c3 c0 c1 c2
    go_wp2_with fail
    exact bodyPost_ret (v := .tuple #[.agg #[.bool false, .string ⟨#[]⟩, .int .i64 0], .int .i64 2]) (by simp [results, Tryz.results101, go_sem]) rfl (HF.out _ (HB.out _))
  have c2f : (x + (z : Int) < -400) = False := eq_false c2
  have HF : Hid (∀ w', Below w.heap.size w w' → DecPost w r (.returned (.tuple #[.agg #[.bool ng, .string v, .int .i64 (x + z)], .int .i64 0])) w') := fun w' hb => decPost_of (by rw [HR2.out, if_neg (fun h => h.elim c1 (fun h => h.elim c2 c3))]; rfl) (by decide) hb
  clear HR2 c3 c0 c1 c2
  go_wp2_with fail
  exact bodyPost_ret (v := .tuple #[.agg #[.bool ng, .string v, .int .i64 (x + z)], .int .i64 0]) (by simp [results, Tryz.results101, go_sem]) rfl (HF.out _ (HB.out _))
theorem power_any (s : ByteArray) (w : World) (hs : s.size ≤ 1000000000) (ha : (L s).all dig = true) :
    Calls Tryz.prog 100 #[.string s] w fun e w' => e = .returned (.int .i64 (numR (L s))) ∧ w = w' := by
  have HST := Lib.hid (fun w => Strip_any s w hs)
  have HA : Hid (∀ b ∈ zl (L s), dig b = true) := zl_all _ (List.all_eq_true.1 ha)
  have HH : Hid (∀ b tl, zl (L s) = b :: tl → b.toNat ≠ 48) := fun b tl h => zl_head _ b tl h
  obtain ⟨R, hR⟩ : ∃ R, R = numR (L s) := ⟨_, rfl⟩
  rw [← hR]
  unfold numR at hR
  have HR := Lib.hid hR
  clear hR ha
  go_enter Tryz.func100, Tryz.ntmps100
  go_wp2_with fail
  refine (HST.out _).mono ?_
  rintro e w1 ⟨t, rfl, ht, rfl⟩
  clear HST
  rw [← ht] at HR HA HH
  clear ht
  have HR2 : Hid (R = if 9 < t.size then 1000000000 else (valL 0 (L t) : Int)) := by unfold Hid; rw [HR.out, L_len]
  clear HR
  by_cases h9 : 9 < t.size
  · have HF := Lib.hid (HR2.out.trans (if_pos h9))
    have h9i : (9 : Int) < t.size := by omega
    clear HR2 h9 HA HH
    go_wp2_with fail
    go_ret
    exact ⟨ri (by rw [HF.out]), rfl⟩
  have HF := Lib.hid (HR2.out.trans (if_neg h9))
  have hnat : natB (L t) = true := by
    unfold natB
    rw [Bool.and_eq_true, Bool.and_eq_true, decide_eq_true_iff, decide_eq_true_iff]
    refine ⟨by rw [L_len]; omega, List.all_eq_true.2 HA.out, ?_⟩
    rcases hz : L t with _ | ⟨b, tl⟩
    · simp
    · have := HH.out _ _ hz
      simpa using this
  have HV := Lib.hid (fun w => RToInt_any t w (by omega) hnat)
  have h9i : ¬ (9 : Int) < t.size := by omega
  clear HR2 h9 HA HH hnat
  go_wp2_with fail
  refine (HV.out _).mono ?_
  rintro e w1 ⟨rfl, rfl⟩
  clear HV
  generalize valL 0 (L t) = n at *
  go_wp2_with fail
  go_ret
  exact ⟨ri (by rw [HF.out]), rfl⟩
end Go.Proofs.YtgddhkanfcpipaaGreatDoor

namespace Go.Proofs.YtgddhkanfcpipaaGreatDoor
open Go.RowKit
set_option maxHeartbeats 8000000
set_option maxRecDepth 100000

/-- Behind the fraction: the place, the digits, the exponent. -/
def FracRel2 (r : DecR) (ng : Bool) (s : ByteArray) (v6 v7 v8 : Value) : Prop := ∃ (k : Nat) (a : ByteArray) (x : Int), v6 = .int .i64 k ∧ v7 = .string a ∧ v8 = .int .i64 x ∧ k ≤ s.size ∧ a.size ≤ 200000 ∧ -100000 ≤ x ∧ x ≤ 0 ∧ r = expoP numR ng (L a) x ((L s).drop k)
/-- Behind the exponent. -/
def ExpRel2 (r : DecR) (ng : Bool) (s a : ByteArray) (v6 v8 : Value) : Prop := ∃ (k : Nat) (x : Int), v6 = .int .i64 k ∧ v8 = .int .i64 x ∧ k ≤ s.size ∧ -3000000000000 ≤ x ∧ x ≤ 3000000000000 ∧ (k < s.size ∧ r = badR 3 ∨ k = s.size ∧ r = normL ng (L a) x)
theorem pre_at (s : ByteArray) (k : Nat) (c : UInt8) : pre ((L s).drop k) [c] = if h : k < s.size then decide ((s[k]).toNat = c.toNat) else false := by
  by_cases h : k < s.size
  · rw [dif_pos h, L_drop s k h, Bool.eq_iff_iff, decide_eq_true_iff]
    simp [pre, UInt8.toNat_inj]
  · rw [dif_neg h, L_drop_nil s k (by omega)]
    rfl
/-- A byte's test at a place that may lie behind the end: what the walk asks. -/
theorem pre_ways (s : ByteArray) (k : Nat) (c : UInt8) (q : Bool) (hq : q = pre ((L s).drop k) [c]) : (q = false ∧ ¬ k < s.size) ∨ (∃ h : k < s.size, q = true ∧ (s[k]).toNat = c.toNat) ∨ (∃ h : k < s.size, q = false ∧ (s[k]).toNat ≠ c.toNat) := by
  rw [pre_at] at hq
  by_cases h : k < s.size
  · rw [dif_pos h] at hq
    by_cases h2 : (s[k]).toNat = c.toNat
    · exact .inr (.inl ⟨h, by rw [hq]; exact decide_eq_true h2, h2⟩)
    · exact .inr (.inr ⟨h, by rw [hq]; exact decide_eq_false h2, h2⟩)
  · rw [dif_neg h] at hq
    exact .inl ⟨hq, h⟩
theorem Parse2_any (s : ByteArray) (w : World) (hs : s.size ≤ 100000) :
    Calls Tryz.prog 48 #[.string s] w (DecPost w (decP numR (L s))) := by
  obtain ⟨r, hr⟩ : ∃ r, r = decP numR (L s) := ⟨_, rfl⟩
  rw [← hr]
  have HRUN : Hid (∀ (i : Nat) w', i ≤ s.size → Calls Tryz.prog 99 #[.string s, .int .i64 i] w' fun e w2 => e = .returned (.int .i64 ((i + runL ((L s).drop i) : Nat) : Int)) ∧ w' = w2) := fun i w' hi => run2_any s i w' (by omega) hi
  have HB : Hid (∀ X, Below w.heap.size w (w.alloc X)) := fun X => (Below.refl _ _).alloc (Nat.le_refl _) _
  have HERR : Hid (r = badR 3 → ∀ w', Below w.heap.size w w' → DecPost w r (.returned (.tuple #[.agg #[.bool false, .string ⟨#[]⟩, .int .i64 0], .int .i64 3])) w') := fun h w' hb => decPost_of (by rw [h]; rfl) (by decide) hb
  unfold decP at hr
  obtain ⟨ng, hng⟩ : ∃ ng, ng = pre (L s) [45] := ⟨_, rfl⟩
  rw [← hng] at hr
  have hw0 := pre_ways s 0 45 ng (by rw [List.drop_zero]; exact hng)
  obtain ⟨i, hi⟩ : ∃ i : Nat, i = if ng then 1 else 0 := ⟨_, rfl⟩
  have hl1 : (if ng then (L s).drop 1 else L s) = (L s).drop i := by rw [hi]; cases ng <;> simp
  rw [hl1] at hr
  have HR := Lib.hid hr
  have HW0 := Lib.hid hw0
  have hile : i ≤ s.size := by
    rcases hw0 with ⟨h, _⟩ | ⟨h, _, _⟩ | ⟨h, h1, _⟩
    · rw [hi, h]; simp
    · rw [hi]; split <;> omega
    · rw [hi]; split <;> omega
  have HI := Lib.hid hi
  have hi1 : ((i : Int) == 1) = ng := by rw [hi]; cases ng <;> rfl
  clear hr hng hw0 hl1 hi
  go_enter Tryz.func48, Tryz.ntmps48
  go_upto_region 2 with fail
  go_cut [20] (fun v wx => v = .bool ng ∧ w.alloc (.cells #[.bool false, .string ⟨#[]⟩, .int .i64 0] 33) = wx)
  case first =>
    as_aux_lemma =>
    clear HR HERR hi1 hile HI
    rcases HW0.out with ⟨rfl, h⟩ | ⟨h, rfl, h2⟩ | ⟨h, rfl, h2⟩
    · have hz : ¬ (0 : Int) < s.size := by omega
      clear HW0 h
      go_wp2_with fail
      go_meet
      exact ⟨rfl, rfl⟩
    · have hz : (0 : Int) < s.size := by omega
      have q := b8t s[0] 45 (by rw [h2]; rfl)
      clear HW0 h2
      go_wp2_with fail
      go_meet
      exact ⟨rfl, rfl⟩
    · have hz : (0 : Int) < s.size := by omega
      have q := b8f s[0] 45 (by intro h; exact h2 (by have : (45 : UInt8).toNat = 45 := rfl; omega))
      clear HW0 h2
      go_wp2_with fail
      go_meet
      exact ⟨rfl, rfl⟩
  case rest =>
  obtain ⟨rfl, rfl⟩ := hcut
  clear HW0
  go_upto_if 20 with fail
  go_cut [4] (fun v wx => v = .int .i64 (i : Nat) ∧ w.alloc (.cells #[.bool false, .string ⟨#[]⟩, .int .i64 0] 33) = wx)
  case first =>
    as_aux_lemma =>
    clear HR HERR hi1 hile
    cases ng
    · have hi := HI.out
      simp only [Bool.false_eq_true, if_false] at hi
      subst hi
      clear HI
      go_wp2_with fail
      go_meet
      exact ⟨rfl, rfl⟩
    · have hi := HI.out
      simp only [if_true] at hi
      subst hi
      clear HI
      go_wp2_with fail
      go_meet
      exact ⟨rfl, rfl⟩
  case rest =>
  obtain ⟨rfl, rfl⟩ := hcut
  clear HI
  have HR0 := Lib.hid (HRUN.out i (w.alloc (.cells #[.bool false, .string ⟨#[]⟩, .int .i64 0] 33)) hile)
  unfold intP at HR
  have hrl := runL_le ((L s).drop i)
  rw [List.length_drop, L_len] at hrl
  have HDG := Lib.hid (runL_all ((L s).drop i))
  obtain ⟨n, hn⟩ : ∃ n, n = runL ((L s).drop i) := ⟨_, rfl⟩
  rw [← hn] at hrl HR HR0 HDG
  clear hn
  go_wp2_with fail
  refine HR0.out.mono ?_
  rintro e w' ⟨rfl, rfl⟩
  clear HR0
  by_cases h0 : n = 0
  · have HF := Lib.hid (HERR.out (HR.out.trans (if_pos (.inl h0))))
    have hq : (((i + n : Nat) : Int) == (i : Int)) = true := by rw [beq_iff_eq]; omega
    clear HR HERR HDG
    subst h0
    go_wp2_with fail
    exact bodyPost_ret (v := .tuple #[.agg #[.bool false, .string ⟨#[]⟩, .int .i64 0], .int .i64 3]) (by simp [results, Tryz.results48, go_sem]) rfl (HF.out _ (HB.out _))
  have his : i < s.size := by omega
  have hisi : (i : Int) < s.size := by omega
  have hki : (((i + n : Nat) : Int) == (i : Int)) = false := by rw [beq_eq_false_iff_ne]; omega
  have HZ0 : Hid (zero0 ((L s).drop i) = decide ((s[i]).toNat = 48)) := by
    unfold Hid
    rw [L_drop s i his]
    show ((s[i]).toNat == 48) = _
    rw [Bool.eq_iff_iff, beq_iff_eq, decide_eq_true_iff]
  obtain ⟨k, hk⟩ : ∃ k, k = i + n := ⟨_, rfl⟩
  rw [← hk] at hki ⊢
  have hks : k ≤ s.size := by omega
  by_cases h1 : 1 < n ∧ (s[i]).toNat = 48
  · have HF := Lib.hid (HERR.out (HR.out.trans (if_pos (.inr ⟨h1.1, by rw [HZ0.out]; exact decide_eq_true h1.2⟩))))
    have h1i : ((i : Int) + 1 < k) = True := eq_true (by omega)
    have q := b8t s[i] 48 (by omega)
    clear HR HERR h1 HZ0 hk HDG
    go_wp2_with fail
    exact bodyPost_ret (v := .tuple #[.agg #[.bool false, .string ⟨#[]⟩, .int .i64 0], .int .i64 3]) (by simp [results, Tryz.results48, go_sem]) rfl (HF.out _ (HB.out _))
  have HR1 : Hid (r = fracP numR ng (((L s).drop i).take n) ((L s).drop k)) := by unfold Hid; rw [HR.out, if_neg (fun h => h.elim h0 (fun h => h1 ⟨h.1, by have := h.2; rw [HZ0.out] at this; exact of_decide_eq_true this⟩)), List.drop_drop, hk]
  have hT : ((s[i].toNat : Int) == 48) = true ∧ ((i : Int) + 1 < k) = False ∨ ((s[i].toNat : Int) == 48) = false := by
    by_cases h : (s[i]).toNat = 48
    · exact .inl ⟨b8t _ _ (by omega), eq_false (by intro h2; exact h1 ⟨by omega, h⟩)⟩
    · exact .inr (b8f _ _ (by intro h2; exact h (by omega)))
  have HT := Lib.hid hT
  have hax : L (s.extract i k) = ((L s).drop i).take n := by rw [L_extract, hk, Nat.add_sub_cancel_left]
  have HAX := Lib.hid hax
  have HK := Lib.hid hk
  have hik : (i : Int) ≤ k := by omega
  have hksi : (k : Int) ≤ s.size := by omega
  clear HR HZ0 h1 hT hax hk hrl
  go_upto_region 6 with fail
  go_cut [40] (fun v wx => v = .bool false ∧ w.alloc (.cells #[.bool false, .string ⟨#[]⟩, .int .i64 0] 33) = wx)
  case first =>
    as_aux_lemma =>
    clear HR1 HERR HDG HAX
    rcases HT.out with ⟨q1, q2⟩ | q1
    all_goals
      clear HT
      go_wp2_with fail
      go_meet
      exact ⟨rfl, rfl⟩
  case rest =>
  obtain ⟨rfl, rfl⟩ := hcut
  clear HT hki his hisi hi1 h0
  generalize hal : s.extract i k = al at *
  have hals : al.size ≤ 100000 := by
    have := sz_of HAX.out
    rw [List.length_take, List.length_drop, L_len] at this
    omega
  replace HR1 : Hid (r = fracP numR ng (L al) ((L s).drop k)) := by unfold Hid; rw [HR1.out, HAX.out]
  have HAL := Lib.hid hal
  clear HAX HDG hal HK
  unfold fracP at HR1
  obtain ⟨qf, hqf⟩ : ∃ q, q = pre ((L s).drop k) [46] := ⟨_, rfl⟩
  have HW1 := Lib.hid (pre_ways s k 46 qf hqf)
  rw [← hqf, List.drop_drop] at HR1
  clear hqf
  go_upto_region 10 with fail
  rw [HAL.out]
  clear HAL
  go_cut [55] (fun v wx => v = .bool qf ∧ w.alloc (.cells #[.bool false, .string ⟨#[]⟩, .int .i64 0] 33) = wx)
  case first =>
    as_aux_lemma =>
    clear HR1 HERR
    rcases HW1.out with ⟨rfl, h⟩ | ⟨h, rfl, h2⟩ | ⟨h, rfl, h2⟩
    · have hz : ¬ (k : Int) < s.size := by omega
      clear HW1 h
      go_wp2_with fail
      go_meet
      exact ⟨rfl, rfl⟩
    · have hz : (k : Int) < s.size := by omega
      have q := b8t s[k] 46 (by rw [h2]; rfl)
      clear HW1 h2
      go_wp2_with fail
      go_meet
      exact ⟨rfl, rfl⟩
    · have hz : (k : Int) < s.size := by omega
      have q := b8f s[k] 46 (by intro h; exact h2 (by have : (46 : UInt8).toNat = 46 := rfl; omega))
      clear HW1 h2
      go_wp2_with fail
      go_meet
      exact ⟨rfl, rfl⟩
  case rest =>
  obtain ⟨rfl, rfl⟩ := hcut
  go_upto_if 55 with fail
  go_cut [6, 7, 8] (fun v6 v7 v8 wx => FracRel2 r ng s v6 v7 v8 ∧ w.alloc (.cells #[.bool false, .string ⟨#[]⟩, .int .i64 0] 33) = wx)
  case first =>
    as_aux_lemma =>
    cases qf with
    | false =>
      have HF : Hid (FracRel2 r ng s (.int .i64 k) (.string al) (.int .i64 0)) := ⟨k, al, 0, rfl, rfl, rfl, hks, by omega, by decide, by decide, HR1.out⟩
      clear HW1 HR1 HERR
      go_wp2_with fail
      go_meet
      exact ⟨HF.out, rfl⟩
    | true =>
      have hkl : k < s.size := by
        rcases HW1.out with ⟨h, _⟩ | ⟨h, _, _⟩ | ⟨h, h', _⟩
        · cases h
        · exact h
        · cases h'
      replace HR1 := Lib.hid (HR1.out.trans (if_pos rfl))
      have HRN := Lib.hid (HRUN.out (k + 1) (w.alloc (.cells #[.bool false, .string ⟨#[]⟩, .int .i64 0] 33)) (by omega))
      have hm := runL_le ((L s).drop (k + 1))
      rw [List.length_drop, L_len] at hm
      obtain ⟨m, hmm⟩ : ∃ m, m = runL ((L s).drop (k + 1)) := ⟨_, rfl⟩
      rw [← hmm] at HR1 HRN hm
      clear HW1 hmm
      go_wp2_with fail
      refine HRN.out.mono ?_
      rintro e w' ⟨rfl, rfl⟩
      clear HRN
      by_cases h0 : m = 0
      · have HF := Lib.hid (HERR.out (HR1.out.trans (if_pos h0)))
        subst h0
        clear HR1 HERR
        go_wp2_with fail
        exact bodyPost_ret (v := .tuple #[.agg #[.bool false, .string ⟨#[]⟩, .int .i64 0], .int .i64 3]) (by simp [results, Tryz.results48, go_sem]) rfl (HF.out _ (HB.out _))
      have hje : (((k + 1 + m : Nat) : Int) == (k : Int) + 1) = false := by rw [beq_eq_false_iff_ne]; omega
      obtain ⟨j, hj⟩ : ∃ j, j = k + 1 + m := ⟨_, rfl⟩
      rw [← hj] at hje ⊢
      have hjs : j ≤ s.size := by omega
      have hjk : (k : Int) + 1 ≤ j := by omega
      have hji : (j : Int) ≤ s.size := by omega
      have hx : (k : Int) + 1 - (j : Int) = -(m : Int) := by omega
      have HF : Hid (FracRel2 r ng s (.int .i64 j) (.string (al ++ s.extract (k + 1) j)) (.int .i64 (-(m : Int)))) := by
        have e1 : L (s.extract (k + 1) j) = ((L s).drop (k + 1)).take m := by rw [L_extract, hj, Nat.add_sub_cancel_left]
        refine ⟨_, _, _, rfl, rfl, rfl, hjs, ?_, by omega, by omega, ?_⟩
        · rw [← L_len, L_append, List.length_append, e1, List.length_take, L_len]; omega
        · rw [L_append, e1, HR1.out, if_neg h0]
          rw [List.drop_drop, show k + (m + 1) = j by omega]
      clear HR1 HERR h0 hj hm
      go_wp2_with fail
      go_meet
      exact ⟨HF.out, rfl⟩
  case rest =>
  as_aux_lemma =>
  clear HR1 HW1 hals hik hksi hks
  obtain ⟨⟨k2, a, x, rfl, rfl, rfl, hk2, has, hx1, hx2, hre⟩, rfl⟩ := hcut
  have HR3 := Lib.hid hre
  clear hre
  go_upto_region 17 with fail
  have way : ∃ qe : Bool, (qe = false ∧ ¬ k2 < s.size ∧ r = normL ng (L a) x) ∨ (∃ h : k2 < s.size, qe = true ∧ ((s[k2]).toNat = 101 ∨ (s[k2]).toNat = 69) ∧ r = expT numR ng (L a) x ((L s).drop (k2 + 1))) ∨ (∃ h : k2 < s.size, qe = false ∧ (s[k2]).toNat ≠ 101 ∧ (s[k2]).toNat ≠ 69 ∧ r = badR 3) := by
    by_cases h : k2 < s.size
    · have hd := L_drop s k2 h
      have he := HR3.out
      rw [hd] at he
      by_cases c : (s[k2]).toNat = 101 ∨ (s[k2]).toNat = 69
      · exact ⟨true, .inr (.inl ⟨h, rfl, c, he.trans (if_pos c)⟩)⟩
      · exact ⟨false, .inr (.inr ⟨h, rfl, fun h => c (.inl h), fun h => c (.inr h), he.trans (if_neg c)⟩)⟩
    · have he := HR3.out
      rw [L_drop_nil s k2 (by omega)] at he
      exact ⟨false, .inl ⟨rfl, h, he⟩⟩
  obtain ⟨qe, way⟩ := way
  have HW := Lib.hid way
  clear way HR3
  go_cut [92] (fun v wx => v = .bool qe ∧ w.alloc (.cells #[.bool false, .string ⟨#[]⟩, .int .i64 0] 33) = wx)
  case first =>
    as_aux_lemma =>
    clear HERR
    rcases HW.out with ⟨rfl, h, _⟩ | ⟨h, rfl, h2, _⟩ | ⟨h, rfl, h2, h3, _⟩
    · have hz : ¬ (k2 : Int) < s.size := by omega
      clear HW h
      go_wp2_with fail
      go_meet
      exact ⟨rfl, rfl⟩
    · have hz : (k2 : Int) < s.size := by omega
      clear HW
      rcases h2 with h2 | h2
      · have q := b8t s[k2] 101 (by omega)
        clear h2
        go_wp2_with fail
        go_meet
        exact ⟨rfl, rfl⟩
      · have q := b8f s[k2] 101 (by omega)
        have q2 := b8t s[k2] 69 (by omega)
        clear h2
        go_wp2_with fail
        go_meet
        exact ⟨rfl, rfl⟩
    · have hz : (k2 : Int) < s.size := by omega
      have q := b8f s[k2] 101 (by omega)
      have q2 := b8f s[k2] 69 (by omega)
      clear HW h2 h3
      go_wp2_with fail
      go_meet
      exact ⟨rfl, rfl⟩
  case rest =>
  obtain ⟨rfl, rfl⟩ := hcut
  go_upto_if 92 with fail
  go_cut [6, 8] (fun v6 v8 wx => ExpRel2 r ng s a v6 v8 ∧ w.alloc (.cells #[.bool false, .string ⟨#[]⟩, .int .i64 0] 33) = wx)
  case first =>
    as_aux_lemma =>
    cases qe with
    | false =>
      have HF : Hid (ExpRel2 r ng s a (.int .i64 k2) (.int .i64 x)) := by
        refine ⟨k2, x, rfl, rfl, hk2, by omega, by omega, ?_⟩
        rcases HW.out with ⟨_, h, h'⟩ | ⟨_, h, _⟩ | ⟨h, _, _, _, h'⟩
        · exact .inr ⟨by omega, h'⟩
        · cases h
        · exact .inl ⟨h, h'⟩
      clear HW HERR
      go_wp2_with fail
      go_meet
      exact ⟨HF.out, rfl⟩
    | true =>
      have h2 : k2 < s.size ∧ r = expT numR ng (L a) x ((L s).drop (k2 + 1)) := by
        rcases HW.out with ⟨h, _, _⟩ | ⟨h, _, _, h'⟩ | ⟨h, h', _, _, _⟩
        · cases h
        · exact ⟨h, h'⟩
        · cases h'
      obtain ⟨hkl, hre⟩ := h2
      obtain ⟨k3, hk3⟩ : ∃ k3, k3 = k2 + 1 := ⟨_, rfl⟩
      rw [← hk3] at hre
      have HE := Lib.hid hre
      have hk3s : k3 ≤ s.size := by omega
      have hk3e : ((k2 : Int) + 1) = k3 := by omega
      clear HW hre hk3
      obtain ⟨less, hless⟩ : ∃ q, q = pre ((L s).drop k3) [45] := ⟨_, rfl⟩
      obtain ⟨plus, hplus⟩ : ∃ q, q = pre ((L s).drop k3) [43] := ⟨_, rfl⟩
      have HW5 := Lib.hid (pre_ways s k3 45 less hless)
      have HW3 := Lib.hid (pre_ways s k3 43 plus hplus)
      unfold expT at HE
      obtain ⟨y, hy⟩ : ∃ y, y = exsS ((L s).drop k3) := ⟨_, rfl⟩
      have hy2 := hy
      unfold exsS at hy2
      rw [← hless, ← hplus] at hy2
      rw [← hy, ← hless] at HE
      have HY := Lib.hid hy2
      clear hless hplus hy hy2
      go_upto_region 19 with fail
      try rw [hk3e]
      clear hk3e
      go_cut [10] (fun v wx => v = .bool less ∧ w.alloc (.cells #[.bool false, .string ⟨#[]⟩, .int .i64 0] 33) = wx)
      case first =>
        as_aux_lemma =>
        clear HERR HE HY HW3
        rcases HW5.out with ⟨rfl, h⟩ | ⟨h, rfl, h2⟩ | ⟨h, rfl, h2⟩
        · have hz : ¬ (k3 : Int) < s.size := by omega
          clear HW5 h
          go_wp2_with fail
          go_meet
          exact ⟨rfl, rfl⟩
        · have hz : (k3 : Int) < s.size := by omega
          have q := b8t s[k3] 45 (by rw [h2]; rfl)
          clear HW5 h2
          go_wp2_with fail
          go_meet
          exact ⟨rfl, rfl⟩
        · have hz : (k3 : Int) < s.size := by omega
          have q := b8f s[k3] 45 (by intro h; exact h2 (by have : (45 : UInt8).toNat = 45 := rfl; omega))
          clear HW5 h2
          go_wp2_with fail
          go_meet
          exact ⟨rfl, rfl⟩
      case rest =>
      obtain ⟨rfl, rfl⟩ := hcut
      go_upto_region 20 with fail
      go_cut [120] (fun v wx => v = .bool (less || plus) ∧ w.alloc (.cells #[.bool false, .string ⟨#[]⟩, .int .i64 0] 33) = wx)
      case first =>
        as_aux_lemma =>
        clear HERR HE HY
        rcases HW5.out with ⟨rfl, h⟩ | ⟨h, rfl, h2⟩ | ⟨h, rfl, h2⟩
        · have hz : ¬ (k3 : Int) < s.size := by omega
          have hp : plus = false := by
            rcases HW3.out with ⟨h, _⟩ | ⟨h', _, _⟩ | ⟨_, h, _⟩
            · exact h
            · omega
            · exact h
          subst hp
          clear HW5 HW3 h
          go_wp2_with fail
          go_meet
          exact ⟨rfl, rfl⟩
        · have hz : (k3 : Int) < s.size := by omega
          have q := b8t s[k3] 45 (by rw [h2]; rfl)
          clear HW5 HW3 h2
          go_wp2_with fail
          go_meet
          exact ⟨rfl, rfl⟩
        · have hz : (k3 : Int) < s.size := by omega
          have q := b8f s[k3] 45 (by intro h; exact h2 (by have : (45 : UInt8).toNat = 45 := rfl; omega))
          clear HW5 h2
          rcases HW3.out with ⟨rfl, h⟩ | ⟨h, rfl, h2⟩ | ⟨h, rfl, h2⟩
          · omega
          · have q3 := b8t s[k3] 43 (by rw [h2]; rfl)
            clear HW3 h2
            go_wp2_with fail
            go_meet
            exact ⟨rfl, rfl⟩
          · have q3 := b8f s[k3] 43 (by intro h; exact h2 (by have : (43 : UInt8).toNat = 43 := rfl; omega))
            clear HW3 h2
            go_wp2_with fail
            go_meet
            exact ⟨rfl, rfl⟩
      case rest =>
      obtain ⟨rfl, rfl⟩ := hcut
      have hq1 : (less || plus) = true → k3 < s.size := by
        intro h
        rcases HW5.out with ⟨h5, _⟩ | ⟨h', _, _⟩ | ⟨h', _, _⟩
        · rcases HW3.out with ⟨h3, _⟩ | ⟨h', _, _⟩ | ⟨h', _, _⟩
          · rw [h5, h3] at h; cases h
          · exact h'
          · exact h'
        · exact h'
        · exact h'
      clear HW5 HW3
      obtain ⟨q, hq⟩ : ∃ q, q = (less || plus) := ⟨_, rfl⟩
      obtain ⟨k4, hk4⟩ : ∃ k4, k4 = if q then k3 + 1 else k3 := ⟨_, rfl⟩
      have hy4 : y = (L s).drop k4 := by
        rw [HY.out, hk4, hq]
        cases (less || plus)
        · rfl
        · simp only [if_true]; rw [List.drop_drop]
      have hk4s : k4 ≤ s.size := by
        rw [hk4]
        cases hc : q
        · simpa using hk3s
        · have := hq1 (hq ▸ hc); simp only [if_true]; omega
      rw [← hq]
      have HK4 := Lib.hid hk4
      have HY4 := Lib.hid hy4
      clear hq hk4 hy4 HY hq1
      go_upto_if 120 with fail
      go_cut [6] (fun v wx => v = .int .i64 (k4 : Nat) ∧ w.alloc (.cells #[.bool false, .string ⟨#[]⟩, .int .i64 0] 33) = wx)
      case first =>
        as_aux_lemma =>
        clear HERR HE HY4
        cases q
        · have h := HK4.out
          simp only [Bool.false_eq_true, if_false] at h
          subst h
          clear HK4
          go_wp2_with fail
          go_meet
          exact ⟨rfl, rfl⟩
        · have h := HK4.out
          simp only [if_true] at h
          have he : (k3 : Int) + 1 = k4 := by omega
          clear HK4 h
          go_wp2_with fail
          go_meet
          exact ⟨rfl, rfl⟩
      case rest =>
      obtain ⟨rfl, rfl⟩ := hcut
      have HRN := Lib.hid (HRUN.out k4 (w.alloc (.cells #[.bool false, .string ⟨#[]⟩, .int .i64 0] 33)) hk4s)
      have hm := runL_le y
      have hyl : y.length = s.size - k4 := by rw [HY4.out, List.length_drop, L_len]
      have HDY := Lib.hid (runL_all y)
      rw [← HY4.out] at HRN
      obtain ⟨m, hmm⟩ : ∃ m, m = runL y := ⟨_, rfl⟩
      rw [← hmm] at HE HRN hm HDY
      clear HK4 hmm
      go_wp2_with fail
      refine HRN.out.mono ?_
      rintro e w' ⟨rfl, rfl⟩
      clear HRN
      by_cases h0 : m = 0
      · have hb : y = [] ∨ m ≠ y.length := by
          rcases y with _ | ⟨b, t⟩
          · exact .inl rfl
          · exact .inr (by rw [h0]; simp)
        have HF := Lib.hid (HERR.out (HE.out.trans (if_pos hb)))
        subst h0
        clear HE HERR hb HDY HY4
        go_wp2_with fail
        exact bodyPost_ret (v := .tuple #[.agg #[.bool false, .string ⟨#[]⟩, .int .i64 0], .int .i64 3]) (by simp [results, Tryz.results48, go_sem]) rfl (HF.out _ (HB.out _))
      obtain ⟨j, hj⟩ : ∃ j, j = k4 + m := ⟨_, rfl⟩
      rw [← hj]
      have hje : ((j : Int) == (k4 : Int)) = false := by rw [beq_eq_false_iff_ne]; omega
      have hjs : j ≤ s.size := by omega
      have hjk : (k4 : Int) ≤ j := by omega
      have hji : (j : Int) ≤ s.size := by omega
      have hex : L (s.extract k4 j) = y.take m := by rw [L_extract, ← HY4.out, hj, Nat.add_sub_cancel_left]
      have hexs : (s.extract k4 j).size ≤ 100000 := by rw [sz_of hex, List.length_take]; omega
      have HPW := Lib.hid (fun w' => power_any (s.extract k4 j) w' (by omega) (by rw [hex]; exact List.all_eq_true.2 HDY.out))
      rw [hex] at HPW
      have hnb : 0 ≤ numR (y.take m) ∧ numR (y.take m) ≤ 1000000000 := by
        unfold numR
        split
        · omega
        · rename_i h
          have h1 := valL_lt (zl (y.take m)) 0 (zl_all _ HDY.out)
          have h3 : (10 : Nat) ^ (zl (y.take m)).length ≤ 10 ^ 9 := Nat.pow_le_pow_right (by decide) (by omega)
          have h4 : (10 : Nat) ^ 9 = 1000000000 := by decide
          omega
      obtain ⟨nn, hnn⟩ : ∃ nn, nn = numR (y.take m) := ⟨_, rfl⟩
      rw [← hnn] at HPW hnb
      obtain ⟨hn0, hn9⟩ := hnb
      have HF : Hid (∀ z : Int, z = movE x less nn → ExpRel2 r ng s a (.int .i64 j) (.int .i64 z)) := fun z hz => by
        have hzb : -3000000000000 ≤ z ∧ z ≤ 3000000000000 := by rw [hz]; unfold movE; split <;> omega
        refine ⟨j, z, rfl, rfl, hjs, hzb.1, hzb.2, ?_⟩
        by_cases hml : m = y.length
        · right
          refine ⟨by omega, ?_⟩
          rw [HE.out, if_neg (fun h => h.elim (fun h => h0 (by rw [hml, h]; rfl)) (fun h => h hml)), hz, hnn, hml, List.take_length]
        · exact .inl ⟨by omega, HE.out.trans (if_pos (.inr hml))⟩
      clear HE HERR HDY HY4 hex hexs hnn hj h0 hm hyl
      go_wp2_with fail
      refine (HPW.out _).mono ?_
      rintro e w' ⟨rfl, rfl⟩
      clear HPW
      cases less
      · replace HF := Lib.hid (HF.out (x + nn) rfl)
        go_wp2_with fail
        go_meet
        exact ⟨HF.out, rfl⟩
      · have hz : x + -nn = x - nn := rfl
        replace HF := Lib.hid (HF.out (x - nn) rfl)
        clear hz
        go_wp2_with fail
        go_meet
        first
          | exact ⟨HF.out, rfl⟩
          | (rw [← Int.sub_eq_add_neg]; exact ⟨HF.out, rfl⟩)
          | (simp only [Int.add_neg_eq_sub]; exact ⟨HF.out, rfl⟩)
  case rest =>
    as_aux_lemma =>
    clear HW HRUN hk2 hx1 hx2
    obtain ⟨⟨k5, z, rfl, rfl, hk5, hz1, hz2, hre⟩, rfl⟩ := hcut
    rcases hre with ⟨hlt, hre⟩ | ⟨hk, hre⟩
    · have HF := Lib.hid (HERR.out hre)
      have hi : (k5 : Int) < s.size := by omega
      clear HERR hre hlt
      go_wp2_with fail
      exact bodyPost_ret (v := .tuple #[.agg #[.bool false, .string ⟨#[]⟩, .int .i64 0], .int .i64 3]) (by simp [results, Tryz.results48, go_sem]) rfl (HF.out _ (HB.out _))
    have HM := Lib.hid (fun w' => normal_any ng a z w' (by omega) hz1 hz2)
    rw [← hre] at HM
    subst hk
    clear HERR hre
    go_wp2_with fail
    refine (HM.out _).mono ?_
    rintro e w2 ⟨rfl, hb⟩
    have HB2 := Lib.hid (((Below.refl _ w).alloc (Nat.le_refl _) _).trans (hb.mono (by simp)))
    have hx0 := (hb.block w.heap.size (by simp)).trans (heap_alloc_new w _)
    obtain ⟨⟨y0, y1, y2⟩, yf⟩ := box3 hx0
    obtain ⟨rn, rs, re, rr⟩ := r
    clear hx0 hb HM
    go_wp2_with fail
    refine bodyPost_ret (v := decV ⟨rn, rs, re, rr⟩) (by simp [results, Tryz.results48, go_sem, y0, y1, y2]) rfl ⟨rfl, ?_⟩
    repeat refine Below.setCell ?_ (by dsimp only; omega) _
    exact HB2.out
end Go.Proofs.YtgddhkanfcpipaaGreatDoor
