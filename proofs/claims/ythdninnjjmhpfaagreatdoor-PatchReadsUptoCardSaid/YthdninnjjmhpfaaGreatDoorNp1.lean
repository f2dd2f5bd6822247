/- decimal.norm, datakitref01.Strip, datakitref02.normal walked, for a seat of values (the same declarations as XNu1, XNd2, XNd3, XNd5 have for the brackets' seat). Conditions: at most 10^9 bytes. -/
import Derived.Test.YthdninnjjmhpfaaGreatDoorVd1
import Derived.Test.YthdninnjjmhpfaaGreatDoorTn
namespace Go.Proofs.YthdninnjjmhpfaaGreatDoor
open Go.RowKit
set_option maxHeartbeats 4000000
set_option maxRecDepth 100000

/-- A decimal's sign, digits and exponent, and the error. -/
structure DecR where
  neg : Bool
  ds : List UInt8
  e : Int
  err : Nat
def badR (n : Nat) : DecR := ⟨false, [], 0, n⟩
def normS (neg : Bool) (s : List UInt8) (e : Int) : DecR :=
  if s = [] then badR 0 else if 400 < e + tz s ∨ e + tz s < -400 ∨ 120 < s.length - tz s then badR 2 else ⟨neg, s.take (s.length - tz s), e + tz s, 0⟩
def normL (neg : Bool) (l : List UInt8) (e : Int) : DecR := normS neg (zl l) e
theorem sz_of {u : ByteArray} {l : List UInt8} (h : L u = l) : u.size = l.length := by rw [← h, L_len]
/-- What is left behind the removal of the zeros ahead. -/
def TrimLPost (s : ByteArray) (w : World) (e : Ending) (w' : World) : Prop := ∃ t : ByteArray, e = .returned (.string t) ∧ L t = zl (L s) ∧ w = w'
theorem Strip_any (s : ByteArray) (w : World) (hs : s.size ≤ 1000000000) :
    Calls Tryz.prog 187 #[.string s] w (TrimLPost s w) := by
  go_enter Tryz.func187, Tryz.ntmps187
  go_wp2_with fail
  go_loop [3] (fun v => ∃ k : Nat, v = .int .i64 k ∧ k ≤ s.size ∧ Hid (zl ((L s).drop k) = zl (L s))) (fun v => s.size - (intOf v).toNat)
  case atStart => exact ⟨0, rfl, Nat.zero_le _, by unfold Hid; rw [List.drop_zero]⟩
  case round =>
    obtain ⟨k, rfl, hk, HC⟩ := hrel
    by_cases hlt : k < s.size
    case neg =>
      have HF : Hid (TrimLPost s w (.returned (.string (s.extract k s.size))) w) := ⟨_, rfl, by rw [← HC.out, L_from, L_drop_nil s k (by omega)]; rfl, rfl⟩
      clear HC
      go_wp2_with fail
      go_ret
      exact HF.out
    have HL := Lib.hid (L_drop s k hlt)
    by_cases h1 : (s[k]).toNat = 48
    · have HN : Hid (zl ((L s).drop (k + 1)) = zl (L s)) := by
        unfold Hid
        rw [← HC.out, HL.out]
        show _ = if _ then _ else _
        rw [if_pos h1]
      have q := b8t s[k] 48 (by omega)
      clear HL HC h1
      go_wp2_with fail
      exact ⟨⟨k + 1, rfl, by omega, HN⟩, by simp [intOf]; omega⟩
    · have HF : Hid (TrimLPost s w (.returned (.string (s.extract k s.size))) w) := by
        refine ⟨_, rfl, ?_, rfl⟩
        rw [← HC.out, L_from, HL.out]
        show _ = if _ then _ else _
        rw [if_neg h1]
      have q := b8f s[k] 48 (by omega)
      clear HL HC h1
      go_wp2_with fail
      go_ret
      exact HF.out
/-- A decimal and an error as they are handed back. -/
abbrev decV (r : DecR) : Value := .tuple #[.agg #[.bool r.neg, .string ⟨r.ds.toArray⟩, .int .i64 r.e], .int .i64 (r.err : Nat)]
def DecPost (w : World) (r : DecR) (e : Ending) (w' : World) : Prop := e = .returned (decV r) ∧ Below w.heap.size w w'
theorem decPost_of {w w' : World} {r : DecR} {n : Bool} {s : ByteArray} {e q : Int} (h : r = ⟨n, L s, e, q.toNat⟩) (hq : 0 ≤ q) (hb : Below w.heap.size w w') : DecPost w r (.returned (.tuple #[.agg #[.bool n, .string s, .int .i64 e], .int .i64 q])) w' := by
  refine ⟨?_, hb⟩
  subst h
  simp only [decV, mk_L, Int.toNat_of_nonneg hq]
theorem norm_any (ng : Bool) (s : ByteArray) (x : Int) (w : World) (hs : s.size ≤ 1000000000) (hx1 : -3000000000000 ≤ x) (hx2 : x ≤ 3000000000000) :
    Calls Tryz.prog 113 #[.bool ng, .string s, .int .i64 x] w (DecPost w (normS ng (L s) x)) := by
  have hbw : ∀ X, Below w.heap.size w (w.alloc X) := fun X => (Below.refl _ _).alloc (Nat.le_refl _) _
  have HB := Lib.hid hbw; clear hbw
  have HT := Lib.hid (fun w => TrimRight0_any s w hs)
  by_cases h0 : L s = []
  · have HF : Hid (∀ w', Below w.heap.size w w' → DecPost w (normS ng (L s) x) (.returned (.tuple #[.agg #[.bool false, .string ⟨#[]⟩, .int .i64 0], .int .i64 0])) w') := fun w' hb => decPost_of (by unfold normS; rw [if_pos h0]; rfl) (by decide) hb
    have hq := isE.2 h0
    clear h0 HT
    go_enter Tryz.func113, Tryz.ntmps113
    go_wp2_with fail
    exact bodyPost_ret (v := .tuple #[.agg #[.bool false, .string ⟨#[]⟩, .int .i64 0], .int .i64 0]) (by simp [results, Tryz.results113, go_sem]) rfl (HF.out _ (HB.out _))
  have hq : s.toList.isEmpty = false := by rw [Bool.eq_false_iff]; exact fun h => h0 (isE.1 h)
  have HR : Hid (normS ng (L s) x = if 400 < x + tz (L s) ∨ x + tz (L s) < -400 ∨ 120 < (L s).length - tz (L s) then badR 2 else ⟨ng, (L s).take ((L s).length - tz (L s)), x + tz (L s), 0⟩) := by unfold Hid normS; rw [if_neg h0]
  clear h0
  obtain ⟨r, hr⟩ : ∃ r, r = normS ng (L s) x := ⟨_, rfl⟩
  rw [← hr] at HR ⊢
  clear hr
  go_enter Tryz.func113, Tryz.ntmps113
  go_wp2_with fail
  refine (HT.out _).mono ?_
  rintro e w1 ⟨t, rfl, h1, h2, rfl⟩
  have htz := tz_le (L s)
  rw [L_len] at htz
  obtain ⟨z, hz⟩ : ∃ z, z = tz (L s) := ⟨_, rfl⟩
  rw [← hz] at HR h1 htz
  clear hz HT
  have hU : s.extract 0 t.size = t := L_inj (by rw [L_extract, List.drop_zero, Nat.sub_zero, ← h2])
  have HR2 : Hid (r = if 400 < x + z ∨ x + z < -400 ∨ 120 < t.size then badR 2 else ⟨ng, L t, x + z, 0⟩) := by
    have : (L s).length - z = t.size := by rw [L_len]; omega
    unfold Hid
    rw [HR.out, this, ← h2]
  have e1 : (s.size : Int) - (t.size : Int) = (z : Int) := by omega
  have e2 : (s.size : Int) - (z : Int) = (t.size : Int) := by omega
  have hts : t.size ≤ s.size := by omega
  have hzs : z ≤ 1000000000 := by omega
  clear HR h2 h1 htz
  by_cases c1 : 400 - (z : Int) < x
  · have HF : Hid (∀ w', Below w.heap.size w w' → DecPost w r (.returned (.tuple #[.agg #[.bool false, .string ⟨#[]⟩, .int .i64 0], .int .i64 2])) w') := fun w' hb => decPost_of (by rw [HR2.out, if_pos (.inl (by omega))]; rfl) (by decide) hb
    clear HR2
    go_wp2_with fail
    exact bodyPost_ret (v := .tuple #[.agg #[.bool false, .string ⟨#[]⟩, .int .i64 0], .int .i64 2]) (by simp [results, Tryz.results113, go_sem]) rfl (HF.out _ (HB.out _))
  have c1f : ((400 : Int) - (z : Int) < x) = False := eq_false c1
  by_cases c2 : x < -400 - (z : Int)
  · have HF : Hid (∀ w', Below w.heap.size w w' → DecPost w r (.returned (.tuple #[.agg #[.bool false, .string ⟨#[]⟩, .int .i64 0], .int .i64 2])) w') := fun w' hb => decPost_of (by rw [HR2.out, if_pos (.inr (.inl (by omega)))]; rfl) (by decide) hb
    clear HR2
    go_wp2_with fail
    exact bodyPost_ret (v := .tuple #[.agg #[.bool false, .string ⟨#[]⟩, .int .i64 0], .int .i64 2]) (by simp [results, Tryz.results113, go_sem]) rfl (HF.out _ (HB.out _))
  have c2f : (x < -400 - (z : Int)) = False := eq_false c2
  by_cases c3 : 120 < t.size
  · have HF : Hid (∀ w', Below w.heap.size w w' → DecPost w r (.returned (.tuple #[.agg #[.bool false, .string ⟨#[]⟩, .int .i64 0], .int .i64 2])) w') := fun w' hb => decPost_of (by rw [HR2.out, if_pos (.inr (.inr c3))]; rfl) (by decide) hb
    have c3i : (120 : Int) < t.size := by omega
    clear HR2 c3 c1 c2
    go_wp2_with fail
    exact bodyPost_ret (v := .tuple #[.agg #[.bool false, .string ⟨#[]⟩, .int .i64 0], .int .i64 2]) (by simp [results, Tryz.results113, go_sem]) rfl (HF.out _ (HB.out _))
  · have HF : Hid (∀ w', Below w.heap.size w w' → DecPost w r (.returned (.tuple #[.agg #[.bool ng, .string t, .int .i64 (x + z)], .int .i64 0])) w') := fun w' hb => decPost_of (by rw [HR2.out, if_neg (by omega)]; rfl) (by decide) hb
    have c3i : ((120 : Int) < t.size) = False := eq_false (by omega)
    clear HR2 c3 c1 c2
    go_wp2_with fail
    exact bodyPost_ret (v := .tuple #[.agg #[.bool ng, .string t, .int .i64 (x + z)], .int .i64 0]) (by simp [results, Tryz.results113, go_sem]) rfl (HF.out _ (HB.out _))
theorem normal_any (ng : Bool) (s : ByteArray) (x : Int) (w : World) (hs : s.size ≤ 1000000000) (hx1 : -3000000000000 ≤ x) (hx2 : x ≤ 3000000000000) :
    Calls Tryz.prog 157 #[.bool ng, .string s, .int .i64 x] w (DecPost w (normL ng (L s) x)) := by
  have hbw : ∀ X, Below w.heap.size w (w.alloc X) := fun X => (Below.refl _ _).alloc (Nat.le_refl _) _
  have HB := Lib.hid hbw; clear hbw
  have HST := Lib.hid (fun w => Strip_any s w hs)
  obtain ⟨r, hr⟩ : ∃ r, r = normL ng (L s) x := ⟨_, rfl⟩
  rw [← hr]
  unfold normL at hr
  have HR0 := Lib.hid hr
  clear hr
  go_enter Tryz.func157, Tryz.ntmps157
  go_wp2_with fail
  refine (HST.out _).mono ?_
  rintro e w1 ⟨t, rfl, ht, rfl⟩
  have hts : t.size ≤ 1000000000 := by have h1 := zl_le (L s); have h2 := sz_of ht; rw [L_len] at h1; omega
  rw [← ht] at HR0
  clear HST ht
  by_cases h0 : L t = []
  · have HF : Hid (∀ w', Below w.heap.size w w' → DecPost w r (.returned (.tuple #[.agg #[.bool false, .string ⟨#[]⟩, .int .i64 0], .int .i64 0])) w') := fun w' hb => decPost_of (by rw [HR0.out]; unfold normS; rw [if_pos h0]; rfl) (by decide) hb
    have hq := isE.2 h0
    clear h0 HR0
    go_wp2_with fail
    exact bodyPost_ret (v := .tuple #[.agg #[.bool false, .string ⟨#[]⟩, .int .i64 0], .int .i64 0]) (by simp [results, Tryz.results157, go_sem]) rfl (HF.out _ (HB.out _))
  have hq : t.toList.isEmpty = false := by rw [Bool.eq_false_iff]; exact fun h => h0 (isE.1 h)
  have HR : Hid (r = if 400 < x + tz (L t) ∨ x + tz (L t) < -400 ∨ 120 < (L t).length - tz (L t) then badR 2 else ⟨ng, (L t).take ((L t).length - tz (L t)), x + tz (L t), 0⟩) := by unfold Hid; rw [HR0.out]; unfold normS; rw [if_neg h0]
  clear h0 HR0
  have HZ := Lib.hid (fun w => Zeros1_any t w hts)
  have htz := tz_le (L t)
  rw [L_len] at htz
  generalize tz (L t) = z at *
  obtain ⟨v, hv⟩ : ∃ v, v = t.extract 0 (t.size - z) := ⟨_, rfl⟩
  have hvL : L v = (L t).take (t.size - z) := by rw [hv, L_extract, List.drop_zero, Nat.sub_zero]
  have hvs : v.size = t.size - z := by rw [sz_of hvL, List.length_take, L_len]; omega
  have HR2 : Hid (r = if 400 < x + z ∨ x + z < -400 ∨ 120 < v.size then badR 2 else ⟨ng, L v, x + z, 0⟩) := by
    unfold Hid
    rw [HR.out, L_len, ← hvL, ← hvs]
  have e2 : (t.size : Int) - (z : Int) = ((t.size - z : Nat) : Int) := by omega
  have hV := hv.symm
  have HVS := Lib.hid hvs
  clear HR hvL hv
  go_wp2_with fail
  refine (HZ.out _).mono ?_
  rintro e w1 ⟨rfl, rfl⟩
  have hzt : (z : Int) ≤ t.size := by omega
  have hz0 : z ≤ 1000000000 := by omega
  clear HZ
  go_upto_region 6 with fail
  try rw [hV]
  clear hV hzt e2
  have hvi : v.size ≤ 1000000000 := by have := HVS.out; omega
  clear HVS htz hvs
  by_cases c3 : 120 < v.size
  · have c3i : (120 : Int) < v.size := by omega
    have HF : Hid (∀ w', Below w.heap.size w w' → DecPost w r (.returned (.tuple #[.agg #[.bool false, .string ⟨#[]⟩, .int .i64 0], .int .i64 2])) w') := fun w' hb => decPost_of (by rw [HR2.out, if_pos (.inr (.inr c3))]; rfl) (by decide) hb
    clear HR2 c3
    go_wp2_with fail
    exact bodyPost_ret (v := .tuple #[.agg #[.bool false, .string ⟨#[]⟩, .int .i64 0], .int .i64 2]) (by simp [results, Tryz.results157, go_sem]) rfl (HF.out _ (HB.out _))
  have c3f : ((120 : Int) < (v.size : Int)) = False := eq_false (by omega)
  by_cases c0 : 400 < x
  · have c0f : ((400 : Int) < x) = True := eq_true c0
    have HF : Hid (∀ w', Below w.heap.size w w' → DecPost w r (.returned (.tuple #[.agg #[.bool false, .string ⟨#[]⟩, .int .i64 0], .int .i64 2])) w') := fun w' hb => decPost_of (by rw [HR2.out, if_pos (.inl (by omega))]; rfl) (by decide) hb
    clear HR2 c3 c0
    go_wp2_with fail
    exact bodyPost_ret (v := .tuple #[.agg #[.bool false, .string ⟨#[]⟩, .int .i64 0], .int .i64 2]) (by simp [results, Tryz.results157, go_sem]) rfl (HF.out _ (HB.out _))
  have c0f : ((400 : Int) < x) = False := eq_false c0
  by_cases c1 : 400 < x + (z : Int)
  · have c1f : ((400 : Int) < x + (z : Int)) = True := eq_true c1
    have HF : Hid (∀ w', Below w.heap.size w w' → DecPost w r (.returned (.tuple #[.agg #[.bool false, .string ⟨#[]⟩, .int .i64 0], .int .i64 2])) w') := fun w' hb => decPost_of (by rw [HR2.out, if_pos (.inl c1)]; rfl) (by decide) hb
    clear HR2 c3 c0 c1
    go_wp2_with fail
    exact bodyPost_ret (v := .tuple #[.agg #[.bool false, .string ⟨#[]⟩, .int .i64 0], .int .i64 2]) (by simp [results, Tryz.results157, go_sem]) rfl (HF.out _ (HB.out _))
  have c1f : ((400 : Int) < x + (z : Int)) = False := eq_false c1
  by_cases c2 : x + (z : Int) < -400
  · have c2f : (x + (z : Int) < -400) = True := eq_true c2
    have HF : Hid (∀ w', Below w.heap.size w w' → DecPost w r (.returned (.tuple #[.agg #[.bool false, .string ⟨#[]⟩, .int .i64 0], .int .i64 2])) w') := fun w' hb => decPost_of (by rw [HR2.out, if_pos (.inr (.inl c2))]; rfl) (by decide) hb
    clear HR2 c3 c0 c1 c2
    go_wp2_with fail
    exact bodyPost_ret (v := .tuple #[.agg #[.bool false, .string ⟨#[]⟩, .int .i64 0], .int .i64 2]) (by simp [results, Tryz.results157, go_sem]) rfl (HF.out _ (HB.out _))
  have c2f : (x + (z : Int) < -400) = False := eq_false c2
  have HF : Hid (∀ w', Below w.heap.size w w' → DecPost w r (.returned (.tuple #[.agg #[.bool ng, .string v, .int .i64 (x + z)], .int .i64 0])) w') := fun w' hb => decPost_of (by rw [HR2.out, if_neg (fun h => h.elim c1 (fun h => h.elim c2 c3))]; rfl) (by decide) hb
  clear HR2 c3 c0 c1 c2
  go_wp2_with fail
  exact bodyPost_ret (v := .tuple #[.agg #[.bool ng, .string v, .int .i64 (x + z)], .int .i64 0]) (by simp [results, Tryz.results157, go_sem]) rfl (HF.out _ (HB.out _))
end Go.Proofs.YthdninnjjmhpfaaGreatDoor
