/- decimal.run, norm, moved, Make walked. Conditions: at most 10^9 bytes. -/
import Derived.Test.YtmafggfonapmpaaDoorNd2
namespace Go.Proofs.YtmafggfonapmpaaDoor
open Go.RowKit
set_option maxHeartbeats 2000000
set_option maxRecDepth 100000

theorem ri {a b : Int} (h : a = b) : Ending.returned (.int .i64 a) = Ending.returned (.int .i64 b) := by rw [h]
/-- A decimal and an error as they are handed back. -/
abbrev decV (r : DecR) : Value := .tuple #[.agg #[.bool r.neg, .string ⟨r.ds.toArray⟩, .int .i64 r.e], .int .i64 (r.err : Nat)]
def DecPost (w : World) (r : DecR) (e : Ending) (w' : World) : Prop := e = .returned (decV r) ∧ Below w.heap.size w w'
theorem decPost_of {w w' : World} {r : DecR} {n : Bool} {s : ByteArray} {e q : Int} (h : r = ⟨n, L s, e, q.toNat⟩) (hq : 0 ≤ q) (hb : Below w.heap.size w w') : DecPost w r (.returned (.tuple #[.agg #[.bool n, .string s, .int .i64 e], .int .i64 q])) w' := by
  refine ⟨?_, hb⟩
  subst h
  simp only [decV, mk_L, Int.toNat_of_nonneg hq]
theorem decRun_any (s : ByteArray) (w : World) (hs : s.size ≤ 1000000000) :
    Calls Tryd.prog 24 #[.string s] w fun e w' => e = .returned (.int .i64 (runL (L s))) ∧ w = w' := by
  go_enter Tryd.func24, Tryd.ntmps24
  go_wp2_with fail
  go_loop [3] (fun n => ∃ k : Nat, k ≤ s.size ∧ n = .int .i64 k ∧ Hid (runL (L s) = k + runL ((L s).drop k))) (fun n => s.size - (intOf n).toNat)
  case atStart => exact ⟨0, by omega, rfl, by unfold Hid; simp⟩
  case round =>
    obtain ⟨k, hk, rfl, hr⟩ := hrel
    by_cases hlt : k < s.size
    · have HR : Hid (runL ((L s).drop k) = if dig s[k] then runL ((L s).drop (k + 1)) + 1 else 0) := by
        unfold Hid; rw [L_drop s k hlt, runL]
      by_cases h1 : (s[k]).toNat < 48
      · have hd : dig s[k] = false := by unfold dig; simp; omega
        have HF : Hid (runL (L s) = k) := by unfold Hid; rw [hr.out, HR.out, hd]; rfl
        have h1i : ¬ (48 : Int) ≤ ((s[k]).toNat : Int) := by omega
        clear HR hr hd h1
        go_wp2_with fail
        go_ret
        exact ⟨ri (by rw [HF.out]), rfl⟩
      by_cases h2 : 57 < (s[k]).toNat
      · have hd : dig s[k] = false := by unfold dig; simp; omega
        have HF : Hid (runL (L s) = k) := by unfold Hid; rw [hr.out, HR.out, hd]; rfl
        have h1i : (48 : Int) ≤ ((s[k]).toNat : Int) := by omega
        have h2i : ¬ ((s[k]).toNat : Int) ≤ 57 := by omega
        clear HR hr hd h1 h2
        go_wp2_with fail
        go_ret
        exact ⟨ri (by rw [HF.out]), rfl⟩
      · have hd : dig s[k] = true := by unfold dig; simp; omega
        have HF : Hid (runL (L s) = k + 1 + runL ((L s).drop (k + 1))) := by unfold Hid; rw [hr.out, HR.out, hd, if_pos rfl]; omega
        have h1i : (48 : Int) ≤ ((s[k]).toNat : Int) := by omega
        have h2i : ((s[k]).toNat : Int) ≤ 57 := by omega
        clear HR hr hd h1 h2
        go_wp2_with fail
        exact ⟨⟨k + 1, by omega, by go_num, HF⟩, by simp [intOf]; omega⟩
    · have HZ : Hid (runL ((L s).drop k) = 0) := by unfold Hid; rw [L_drop_nil s k (by omega)]; rfl
      have HF : Hid (runL (L s) = k) := by unfold Hid; rw [hr.out, HZ.out]; rfl
      clear HZ hr
      go_wp2_with fail
      go_ret
      exact ⟨ri (by rw [HF.out]), rfl⟩
theorem norm_any (ng : Bool) (s : ByteArray) (x : Int) (w : World) (hs : s.size ≤ 1000000000) (hx1 : -3000000000000 ≤ x) (hx2 : x ≤ 3000000000000) :
    Calls Tryd.prog 47 #[.bool ng, .string s, .int .i64 x] w (DecPost w (normS ng (L s) x)) := by
  have hbw : ∀ X, Below w.heap.size w (w.alloc X) := fun X => (Below.refl _ _).alloc (Nat.le_refl _) _
  have HB := Lib.hid hbw; clear hbw
  have HT := Lib.hid (fun w => TrimRight0_any s w hs)
  by_cases h0 : L s = []
  · have HF : Hid (∀ w', Below w.heap.size w w' → DecPost w (normS ng (L s) x) (.returned (.tuple #[.agg #[.bool false, .string ⟨#[]⟩, .int .i64 0], .int .i64 0])) w') := fun w' hb => decPost_of (by unfold normS; rw [if_pos h0]; rfl) (by decide) hb
    have hq := isEm.2 h0
    clear h0 HT
    go_enter Tryd.func47, Tryd.ntmps47
    go_wp2_with fail
    exact bodyPost_ret (v := .tuple #[.agg #[.bool false, .string ⟨#[]⟩, .int .i64 0], .int .i64 0]) (by simp [results, Tryd.results47, go_sem]) rfl (HF.out _ (HB.out _))
  have hq : s.toList.isEmpty = false := by rw [Bool.eq_false_iff]; exact fun h => h0 (isEm.1 h)
  have HR : Hid (normS ng (L s) x = if 400 < x + tz (L s) ∨ x + tz (L s) < -400 ∨ 120 < (L s).length - tz (L s) then badR 2 else ⟨ng, (L s).take ((L s).length - tz (L s)), x + tz (L s), 0⟩) := by unfold Hid normS; rw [if_neg h0]
  clear h0
  obtain ⟨r, hr⟩ : ∃ r, r = normS ng (L s) x := ⟨_, rfl⟩
  rw [← hr] at HR ⊢
  clear hr
  go_enter Tryd.func47, Tryd.ntmps47
  go_wp2_with fail
  refine (HT.out _).mono ?_
  rintro e w1 ⟨t, rfl, h1, h2, rfl⟩
  have htz := tz_le (L s)
  rw [L_len] at htz
  obtain ⟨z, hz⟩ : ∃ z, z = tz (L s) := ⟨_, rfl⟩
  rw [← hz] at HR h1 htz
  clear hz HT
  have hU : s.extract 0 t.size = t := L_inj (by rw [L_extract, List.drop_zero, Nat.sub_zero, ← h2])
  have HR2 : Hid (r = if 400 < x + z ∨ x + z < -400 ∨ 120 < t.size then badR 2 else ⟨ng, L t, x + z, 0⟩) := by
    have : (L s).length - z = t.size := by rw [L_len]; omega
    unfold Hid
    rw [HR.out, this, ← h2]
  have e1 : (s.size : Int) - (t.size : Int) = (z : Int) := by omega
  have e2 : (s.size : Int) - (z : Int) = (t.size : Int) := by omega
  have hts : t.size ≤ s.size := by omega
  have hzs : z ≤ 1000000000 := by omega
  clear HR h2 h1 htz
  by_cases c1 : 400 - (z : Int) < x
  · have HF : Hid (∀ w', Below w.heap.size w w' → DecPost w r (.returned (.tuple #[.agg #[.bool false, .string ⟨#[]⟩, .int .i64 0], .int .i64 2])) w') := fun w' hb => decPost_of (by rw [HR2.out, if_pos (.inl (by omega))]; rfl) (by decide) hb
    clear HR2
    go_wp2_with fail
    exact bodyPost_ret (v := .tuple #[.agg #[.bool false, .string ⟨#[]⟩, .int .i64 0], .int .i64 2]) (by simp [results, Tryd.results47, go_sem]) rfl (HF.out _ (HB.out _))
  have c1f : ((400 : Int) - (z : Int) < x) = False := eq_false c1
  by_cases c2 : x < -400 - (z : Int)
  · have HF : Hid (∀ w', Below w.heap.size w w' → DecPost w r (.returned (.tuple #[.agg #[.bool false, .string ⟨#[]⟩, .int .i64 0], .int .i64 2])) w') := fun w' hb => decPost_of (by rw [HR2.out, if_pos (.inr (.inl (by omega)))]; rfl) (by decide) hb
    clear HR2
    go_wp2_with fail
    exact bodyPost_ret (v := .tuple #[.agg #[.bool false, .string ⟨#[]⟩, .int .i64 0], .int .i64 2]) (by simp [results, Tryd.results47, go_sem]) rfl (HF.out _ (HB.out _))
  have c2f : (x < -400 - (z : Int)) = False := eq_false c2
  by_cases c3 : 120 < t.size
  · have HF : Hid (∀ w', Below w.heap.size w w' → DecPost w r (.returned (.tuple #[.agg #[.bool false, .string ⟨#[]⟩, .int .i64 0], .int .i64 2])) w') := fun w' hb => decPost_of (by rw [HR2.out, if_pos (.inr (.inr c3))]; rfl) (by decide) hb
    have c3i : (120 : Int) < t.size := by omega
    clear HR2 c3 c1 c2
    go_wp2_with fail
    exact bodyPost_ret (v := .tuple #[.agg #[.bool false, .string ⟨#[]⟩, .int .i64 0], .int .i64 2]) (by simp [results, Tryd.results47, go_sem]) rfl (HF.out _ (HB.out _))
  · have HF : Hid (∀ w', Below w.heap.size w w' → DecPost w r (.returned (.tuple #[.agg #[.bool ng, .string t, .int .i64 (x + z)], .int .i64 0])) w') := fun w' hb => decPost_of (by rw [HR2.out, if_neg (by omega)]; rfl) (by decide) hb
    have c3i : ((120 : Int) < t.size) = False := eq_false (by omega)
    clear HR2 c3 c1 c2
    go_wp2_with fail
    exact bodyPost_ret (v := .tuple #[.agg #[.bool ng, .string t, .int .i64 (x + z)], .int .i64 0]) (by simp [results, Tryd.results47, go_sem]) rfl (HF.out _ (HB.out _))
theorem moved_any (x : Int) (less : Bool) (t : ByteArray) (u : List UInt8) (w : World) (hx1 : -100000 ≤ x) (hx2 : x ≤ 0) (ht : t.size ≤ 1000000000) (hu : L t = zl u) (hn : t.size ≤ 12 → natB (L t) = true) :
    Calls Tryd.prog 25 #[.int .i64 x, .bool less, .string t] w fun e w' => e = .returned (.int .i64 (movE x less (numP u))) ∧ w = w' := by
  have HN : Hid (numP u = if t.size ≤ 12 then (valL 0 (L t) : Int) else 1099511627776) := by unfold Hid numP; rw [← hu, L_len]
  by_cases h12 : t.size ≤ 12
  · have HV := Lib.hid (dToInt_any t w h12 (hn h12))
    have hb := valL_bd t t.size (Nat.le_refl _) h12 (by
      have := hn h12
      unfold natB at this
      rw [Bool.and_eq_true, Bool.and_eq_true] at this
      exact this.2.1)
    rw [List.take_of_length_le (by rw [L_len]; exact Nat.le_refl _)] at hb
    rw [if_pos h12] at HN
    generalize valL 0 (L t) = n at *
    have hbi : (n : Int) ≤ 1000000000000 := by omega
    have HF : Hid (movE x less (numP u) = if less then x - n else x + n) := by unfold Hid movE; rw [HN.out]
    generalize movE x less (numP u) = r at *
    clear HN hn hu hb
    cases less
    all_goals
      go_enter Tryd.func25, Tryd.ntmps25
      go_wp2_with fail
      refine HV.out.mono ?_
      rintro e w' ⟨rfl, rfl⟩
      go_wp2_with fail
      go_ret
      exact ⟨ri (by rw [HF.out]; rfl), rfl⟩
  · rw [if_neg h12] at HN
    have HF : Hid (movE x less (numP u) = if less then x - 1099511627776 else x + 1099511627776) := by unfold Hid movE; rw [HN.out]
    generalize movE x less (numP u) = r at *
    have h12i : ¬ (t.size : Int) ≤ 12 := by omega
    clear HN hn hu h12
    cases less
    all_goals
      go_enter Tryd.func25, Tryd.ntmps25
      go_wp2_with fail
      go_ret
      exact ⟨ri (by rw [HF.out]; rfl), rfl⟩
end Go.Proofs.YtmafggfonapmpaaDoor
