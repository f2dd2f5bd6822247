/- Appends to a row of one's own: which block the new row lies in. Conditions: none. -/
import Derived.Test.YtlnpfpjncnkekaaGreatDoorZt3
import Derived.WalkSpells
import Derived.WalkLawsBesides
import Derived.Lib.AppendStr
namespace Go.Proofs.YtlnpfpjncnkekaaGreatDoor
open Go.RowKit
set_option maxHeartbeats 1000000
set_option maxRecDepth 100000

theorem get_bang (s : ByteArray) (i : Nat) (h : i < s.size) : s.get! i = s[i] := by
  simp [ByteArray.get!, getElem!_pos, h]
  rfl
/-- Go's own decoding of a string is dec, but for what is no character. -/
theorem utf8_dec (s : ByteArray) (k : Nat) (h : k < s.size) : Utf8.decode s k = if (dec ((L s).drop k)).2 = 0 then (65533, 1) else dec ((L s).drop k) := by
  rw [L_drop s k h]
  have hb := s[k].toNat_lt
  unfold Utf8.decode
  simp only [Nat.add_zero, get_bang s k h]
  generalize hbk : s[k] = b at *
  by_cases h1 : b.toNat < 128
  · have e2 : hd b.toNat = (1, b.toNat) := by unfold hd; rw [if_pos h1]
    have e4 : scal b.toNat = true := by simp [scal]; omega
    have e5 : wid b.toNat = 1 := by unfold wid; rw [if_pos h1]
    simp [dec, e2, cont, e4, e5, h1]
  rw [if_neg (by omega)]
  have drop1 : ∀ h : k + 1 < s.size, (L s).drop (k + 1) = s[k + 1] :: (L s).drop (k + 2) := fun h => L_drop s (k + 1) h
  have drop2 : ∀ h : k + 2 < s.size, (L s).drop (k + 2) = s[k + 2] :: (L s).drop (k + 3) := fun h => L_drop s (k + 2) h
  have drop3 : ∀ h : k + 3 < s.size, (L s).drop (k + 3) = s[k + 3] :: (L s).drop (k + 4) := fun h => L_drop s (k + 3) h
  have nil1 : ¬ k + 1 < s.size → (L s).drop (k + 1) = [] := fun h => L_drop_nil s _ (by omega)
  have nil2 : ¬ k + 2 < s.size → (L s).drop (k + 2) = [] := fun h => L_drop_nil s _ (by omega)
  have nil3 : ¬ k + 3 < s.size → (L s).drop (k + 3) = [] := fun h => L_drop_nil s _ (by omega)
  have q2 : ∀ x : Nat, (x + 1 + 1 < 2) = False := fun x => eq_false (by omega)
  have q3 : ∀ x : Nat, (x + 1 + 1 + 1 < 3) = False := fun x => eq_false (by omega)
  have q4 : ∀ x : Nat, (x + 1 + 1 + 1 + 1 < 4) = False := fun x => eq_false (by omega)
  by_cases h2 : b.toNat < 192
  · have e2 : hd b.toNat = (0, 0) := by unfold hd; rw [if_neg h1, if_neg (by omega), if_neg (by omega), if_neg (by omega)]
    have a1 : (b.toNat / 32 == 6) = false := by rw [beq_eq_false_iff_ne]; omega
    have a2 : (b.toNat / 16 == 14) = false := by rw [beq_eq_false_iff_ne]; omega
    have a3 : (b.toNat / 8 == 30) = false := by rw [beq_eq_false_iff_ne]; omega
    simp [dec, e2, a1, a2, a3, Utf8.runeError]
  by_cases h3 : b.toNat < 224
  · have e2 : hd b.toNat = (2, b.toNat % 32) := by unfold hd; rw [if_neg h1, if_pos (by omega)]
    have a1 : (b.toNat / 32 == 6) = true := by rw [beq_iff_eq]; omega
    have a2 : (b.toNat / 16 == 14) = false := by rw [beq_eq_false_iff_ne]; omega
    have a3 : (b.toNat / 8 == 30) = false := by rw [beq_eq_false_iff_ne]; omega
    by_cases k1 : k + 1 < s.size
    · rw [drop1 k1, get_bang s _ k1]
      generalize s[k + 1] = c
      have hc := c.toNat_lt
      by_cases hc2 : c.toNat / 64 = 2
      · by_cases hr : 128 ≤ b.toNat % 32 * 64 + c.toNat % 64
        · have w1 : wid (b.toNat % 32 * 64 + c.toNat % 64) = 2 := by unfold wid; rw [if_neg (by omega), if_pos (by omega)]
          have s1 : scal (b.toNat % 32 * 64 + c.toNat % 64) = true := by simp [scal]; omega
          simp [dec, e2, a1, k1, hc2, cont, hr, w1, s1, q2]
        · have w1 : wid (b.toNat % 32 * 64 + c.toNat % 64) = 1 := by unfold wid; rw [if_pos (by omega)]
          simp [dec, e2, a1, k1, hc2, cont, hr, w1, Utf8.runeError]
      · simp [dec, e2, a1, a2, a3, k1, hc2, cont, Utf8.runeError]
    · rw [nil1 k1]
      simp [dec, e2, a1, a2, a3, k1, Utf8.runeError]
  by_cases h4 : b.toNat < 240
  · have e2 : hd b.toNat = (3, b.toNat % 16) := by unfold hd; rw [if_neg h1, if_neg (by omega), if_pos (by omega)]
    have a1 : (b.toNat / 32 == 6) = false := by rw [beq_eq_false_iff_ne]; omega
    have a2 : (b.toNat / 16 == 14) = true := by rw [beq_iff_eq]; omega
    have a3 : (b.toNat / 8 == 30) = false := by rw [beq_eq_false_iff_ne]; omega
    by_cases k1 : k + 1 < s.size
    · by_cases k2 : k + 2 < s.size
      · rw [drop1 k1, drop2 k2, get_bang s _ k1, get_bang s _ k2]
        generalize s[k + 1] = c
        generalize s[k + 2] = d
        have hc := c.toNat_lt
        have hd' := d.toNat_lt
        by_cases hc2 : c.toNat / 64 = 2
        · by_cases hd2 : d.toNat / 64 = 2
          · have ea : (b.toNat % 16 * 64 + c.toNat % 64) * 64 + d.toNat % 64 = b.toNat % 16 * 4096 + c.toNat % 64 * 64 + d.toNat % 64 := by omega
            by_cases hr : 2048 ≤ b.toNat % 16 * 4096 + c.toNat % 64 * 64 + d.toNat % 64
            · have w1 : wid (b.toNat % 16 * 4096 + c.toNat % 64 * 64 + d.toNat % 64) = 3 := by unfold wid; rw [if_neg (by omega), if_neg (by omega), if_pos (by omega)]
              have hv : Utf8.valid ((b.toNat % 16 * 4096 + c.toNat % 64 * 64 + d.toNat % 64 : Nat) : Int) = scal (b.toNat % 16 * 4096 + c.toNat % 64 * 64 + d.toNat % 64) := by
                rw [Bool.eq_iff_iff]; simp [Utf8.valid, scal]; omega
              simp only [e2, a1, a2, k1, k2, hc2, hd2, hv, dec, cont, ea]
              cases hs : scal (b.toNat % 16 * 4096 + c.toNat % 64 * 64 + d.toNat % 64) <;> simp [hs, hr, w1, Utf8.runeError, q3]
            · have w1 : wid (b.toNat % 16 * 4096 + c.toNat % 64 * 64 + d.toNat % 64) ≠ 3 := by unfold wid; split <;> (try split) <;> (try split) <;> omega
              simp [dec, e2, a1, a2, k1, k2, hc2, hd2, cont, ea, hr, w1, Utf8.runeError]
          · simp [dec, e2, a1, a2, a3, k1, k2, hc2, hd2, cont, Utf8.runeError]
        · simp [dec, e2, a1, a2, a3, k1, hc2, cont, Utf8.runeError]
      · rw [drop1 k1, nil2 k2]
        simp [dec, e2, a1, a2, a3, k2, Utf8.runeError]
    · rw [nil1 k1]
      simp [dec, e2, a1, a2, a3, k1, Utf8.runeError]
  have a1 : (b.toNat / 32 == 6) = false := by rw [beq_eq_false_iff_ne]; omega
  have a2 : (b.toNat / 16 == 14) = false := by rw [beq_eq_false_iff_ne]; omega
  by_cases h5 : b.toNat < 248
  · have e2 : hd b.toNat = (4, b.toNat % 8) := by unfold hd; rw [if_neg h1, if_neg (by omega), if_neg (by omega), if_pos (by omega)]
    have a3 : (b.toNat / 8 == 30) = true := by rw [beq_iff_eq]; omega
    by_cases k1 : k + 1 < s.size
    · by_cases k2 : k + 2 < s.size
      · by_cases k3 : k + 3 < s.size
        · rw [drop1 k1, drop2 k2, drop3 k3, get_bang s _ k1, get_bang s _ k2, get_bang s _ k3]
          generalize s[k + 1] = c
          generalize s[k + 2] = d
          generalize s[k + 3] = e
          have hc := c.toNat_lt
          have hd' := d.toNat_lt
          have he' := e.toNat_lt
          by_cases hc2 : c.toNat / 64 = 2
          · by_cases hd2 : d.toNat / 64 = 2
            · by_cases he2 : e.toNat / 64 = 2
              · have ea : ((b.toNat % 8 * 64 + c.toNat % 64) * 64 + d.toNat % 64) * 64 + e.toNat % 64 = b.toNat % 8 * 262144 + c.toNat % 64 * 4096 + d.toNat % 64 * 64 + e.toNat % 64 := by omega
                by_cases hr : 65536 ≤ b.toNat % 8 * 262144 + c.toNat % 64 * 4096 + d.toNat % 64 * 64 + e.toNat % 64
                · have w1 : wid (b.toNat % 8 * 262144 + c.toNat % 64 * 4096 + d.toNat % 64 * 64 + e.toNat % 64) = 4 := by unfold wid; rw [if_neg (by omega), if_neg (by omega), if_neg (by omega)]
                  have hv : Utf8.valid ((b.toNat % 8 * 262144 + c.toNat % 64 * 4096 + d.toNat % 64 * 64 + e.toNat % 64 : Nat) : Int) = scal (b.toNat % 8 * 262144 + c.toNat % 64 * 4096 + d.toNat % 64 * 64 + e.toNat % 64) := by
                    rw [Bool.eq_iff_iff]; simp [Utf8.valid, scal]; omega
                  simp only [e2, a1, a2, a3, k1, k2, k3, hc2, hd2, he2, hv, dec, cont, ea]
                  generalize hx : b.toNat % 8 * 262144 + c.toNat % 64 * 4096 + d.toNat % 64 * 64 + e.toNat % 64 = x at *
                  cases hs : scal x <;> simp [hs, hr, w1, Utf8.runeError, q4]
                · have w1 : wid (b.toNat % 8 * 262144 + c.toNat % 64 * 4096 + d.toNat % 64 * 64 + e.toNat % 64) ≠ 4 := by unfold wid; split <;> (try split) <;> (try split) <;> omega
                  simp only [dec, e2, a1, a2, a3, k1, k2, k3, hc2, hd2, he2, cont, ea]
                  generalize hx : b.toNat % 8 * 262144 + c.toNat % 64 * 4096 + d.toNat % 64 * 64 + e.toNat % 64 = x at *
                  simp [hr, w1, Utf8.runeError]
              · simp [dec, e2, a1, a2, a3, k1, k2, k3, hc2, hd2, he2, cont, Utf8.runeError]
            · simp [dec, e2, a1, a2, a3, k1, k2, hc2, hd2, cont, Utf8.runeError]
          · simp [dec, e2, a1, a2, a3, k1, hc2, cont, Utf8.runeError]
        · rw [drop1 k1, drop2 k2, nil3 k3]
          simp [dec, e2, a1, a2, a3, k3, Utf8.runeError]
      · rw [drop1 k1, nil2 k2]
        simp [dec, e2, a1, a2, a3, k2, Utf8.runeError]
    · rw [nil1 k1]
      simp [dec, e2, a1, a2, a3, k1, Utf8.runeError]
  · have e2 : hd b.toNat = (0, 0) := by unfold hd; rw [if_neg h1, if_neg (by omega), if_neg (by omega), if_neg (by omega)]
    have a3 : (b.toNat / 8 == 30) = false := by rw [beq_eq_false_iff_ne]; omega
    simp [dec, e2, a1, a2, a3, Utf8.runeError]
end Go.Proofs.YtlnpfpjncnkekaaGreatDoor

namespace Go.Proofs.YtlnpfpjncnkekaaGreatDoor
open Go.RowKit
set_option maxHeartbeats 1000000
set_option maxRecDepth 100000

theorem hd_lt (b : Nat) : (hd b).1 ≤ 4 ∧ (hd b).2 < 128 := by
  unfold hd
  repeat' split
  all_goals constructor <;> simp <;> omega

theorem head_any (c : UInt8) (w : World) :
    Calls Tryz.prog 139 #[.int .u8 c.toNat] w fun e w' => e = .returned (.tuple #[.int .i64 (hd c.toNat).1, .int .i64 (hd c.toNat).2]) ∧ w = w' := by
  go_enter Tryz.func139, Tryz.ntmps139
  go_wp2_with fail
  all_goals
    go_ret2
    refine ⟨?_, rfl⟩
    unfold hd
    repeat (first | rw [if_pos (by omega)] | rw [if_neg (by omega)])
    try rfl

theorem scalar_any (r : Nat) (w : World) :
    Calls Tryz.prog 140 #[.int .i64 r] w fun e w' => e = .returned (.bool (scal r)) ∧ w = w' := by
  have h0 : (0 : Int) ≤ r := by omega
  by_cases h1 : (r : Int) ≤ 1114111
  · by_cases h2 : (r : Int) < 55296
    · go_enter Tryz.func140, Tryz.ntmps140
      go_wp2_with fail
      go_ret
      exact ⟨by rw [show scal r = true by simp [scal]; omega]; rfl, rfl⟩
    · by_cases h3 : (57343 : Int) < r
      · go_enter Tryz.func140, Tryz.ntmps140
        go_wp2_with fail
        go_ret
        exact ⟨by rw [show scal r = true by simp [scal]; omega]; rfl, rfl⟩
      · go_enter Tryz.func140, Tryz.ntmps140
        go_wp2_with fail
        go_ret
        exact ⟨by rw [show scal r = false by simp [scal]; omega]; rfl, rfl⟩
  · go_enter Tryz.func140, Tryz.ntmps140
    go_wp2_with fail
    go_ret
    exact ⟨by rw [show scal r = false by simp [scal]; omega]; rfl, rfl⟩

theorem width_any (r : Nat) (w : World) :
    Calls Tryz.prog 141 #[.int .i64 r] w fun e w' => e = .returned (.int .i64 (wid r)) ∧ w = w' := by
  by_cases h1 : (r : Int) < 128
  · go_enter Tryz.func141, Tryz.ntmps141
    go_wp2_with fail
    go_ret
    exact ⟨by rw [show wid r = 1 by unfold wid; simp (disch := omega) only [if_pos]]; rfl, rfl⟩
  by_cases h2 : (r : Int) < 2048
  · go_enter Tryz.func141, Tryz.ntmps141
    go_wp2_with fail
    go_ret
    exact ⟨by rw [show wid r = 2 by unfold wid; simp (disch := omega) only [if_pos, if_neg]]; rfl, rfl⟩
  by_cases h3 : (r : Int) < 65536
  · go_enter Tryz.func141, Tryz.ntmps141
    go_wp2_with fail
    go_ret
    exact ⟨by rw [show wid r = 3 by unfold wid; simp (disch := omega) only [if_pos, if_neg]]; rfl, rfl⟩
  · go_enter Tryz.func141, Tryz.ntmps141
    go_wp2_with fail
    go_ret
    exact ⟨by rw [show wid r = 4 by unfold wid; simp (disch := omega) only [if_neg]]; rfl, rfl⟩

theorem Decode_any (s : ByteArray) (k : Nat) (w : World) (hs : s.size ≤ maxLen) :
    Calls Tryz.prog 85 #[.string s, .int .i64 k] w fun e w' => e = .returned (.tuple #[.int .i64 (dec ((L s).drop k)).1, .int .i64 (dec ((L s).drop k)).2]) ∧ w = w' := by
  unfold maxLen at hs
  by_cases h1 : s.size ≤ k
  · have hz : dec ((L s).drop k) = (0, 0) := by rw [L_drop_nil s k h1]; rfl
    have HZ := Lib.hid hz; clear hz
    go_enter Tryz.func85, Tryz.ntmps85
    go_wp2_with fail
    go_ret2
    exact ⟨by rw [HZ.out]; rfl, rfl⟩
  have h2 : k < s.size := by omega
  have h0 : ¬ (k : Int) < 0 := by omega
  have hd0 : dec ((L s).drop k) = if (hd s[k].toNat).1 = 0 ∨ s.size - k < (hd s[k].toNat).1 then (0, 0) else match cont ((hd s[k].toNat).1 - 1) (hd s[k].toNat).2 ((L s).drop (k + 1)) with | none => (0, 0) | some r => if scal r ∧ wid r = (hd s[k].toNat).1 then (r, (hd s[k].toNat).1) else (0, 0) := by
    rw [L_drop s k h2, ← show ((L s).drop (k + 1)).length + 1 = s.size - k by rw [List.length_drop, L_len]; omega]
    rfl
  have HD := Lib.hid hd0; clear hd0
  obtain ⟨hb1, hb2⟩ := hd_lt s[k].toNat
  go_enter Tryz.func85, Tryz.ntmps85
  go_wp2_with fail
  refine (head_any _ _).mono ?_
  rintro e w' ⟨rfl, rfl⟩
  generalize hn : (hd s[k].toNat).1 = n at *
  generalize hr : (hd s[k].toNat).2 = r0 at *
  clear hn hr
  by_cases hz : n = 0
  · have HZ := Lib.hid hz; clear hz
    obtain rfl := HZ.out
    go_wp2_with fail
    go_ret2
    exact ⟨by rw [HD.out]; rfl, rfl⟩
  have hz0 : ((n : Int) == 0) = false := beq_eq_false_iff_ne.2 (by omega)
  by_cases hl : s.size - k < n
  · have hl' : (s.size : Int) - k < n := by omega
    go_wp2_with fail
    go_ret2
    exact ⟨by rw [HD.out, if_pos (.inr hl)]; rfl, rfl⟩
  have hl' : ¬ (s.size : Int) - k < n := by omega
  have HE : Hid (dec ((L s).drop k) = match cont (n - 1) r0 ((L s).drop (k + 1)) with | none => (0, 0) | some r => if scal r ∧ wid r = n then (r, n) else (0, 0)) := by
    unfold Hid
    rw [HD.out, if_neg (by omega)]
  clear HD
  go_wp2_with fail
  go_loop [4, 7, 8] (fun a i _ => ∃ (j r : Nat), 1 ≤ j ∧ j ≤ n ∧ r < 128 * 64 ^ (j - 1) ∧ i = .int .i64 j ∧ a = .int .i64 r ∧ Hid (cont (n - 1) r0 ((L s).drop (k + 1)) = cont (n - j) r ((L s).drop (k + j)))) (fun _ i _ => n - (intOf i).toNat)
  case atStart => exact ⟨1, r0, Nat.le_refl _, by omega, by simpa using hb2, rfl, rfl, rfl⟩
  case round =>
    obtain ⟨j, r, hj1, hj2, hr, rfl, rfl, HC⟩ := hrel
    by_cases hlt : j < n
    · have hjs : k + j < s.size := by omega
      have HC' : Hid (cont (n - j) r ((L s).drop (k + j)) = if s[k + j].toNat / 64 = 2 then cont (n - (j + 1)) (r * 64 + s[k + j].toNat % 64) ((L s).drop (k + (j + 1))) else none) := by
        rw [L_drop s (k + j) hjs, show n - j = n - (j + 1) + 1 by omega]
        rfl
      have hr1 : r < 128 * 64 ^ 3 := Nat.lt_of_lt_of_le hr (Nat.mul_le_mul_left _ (Nat.pow_le_pow_right (by omega) (by omega)))
      have hr2 : Hid (r < 100000000) := (by omega : r < 100000000)
      have HR := Lib.hid hr; clear hr hr1
      by_cases hc : s[k + j].toNat / 64 = 2
      · have hb : (bits BinOp.and IntKind.u8 (s[k + j].toNat : Int) 192 != 128) = false := by rw [and192, hc]; rfl
        go_wp2_with fail
        refine ⟨⟨j + 1, r * 64 + s[k + j].toNat % 64, by omega, by omega, ?_, rfl, by rw [or64 _ _ hr2.out], ?_⟩, by simp [intOf]; omega⟩
        · have := HR.out
          rw [show j + 1 - 1 = j - 1 + 1 by omega, Nat.pow_succ]
          have : s[k + j].toNat % 64 < 64 := Nat.mod_lt _ (by decide)
          omega
        · unfold Hid
          rw [HC.out, HC'.out, if_pos hc]
      · have hb : (bits BinOp.and IntKind.u8 (s[k + j].toNat : Int) 192 != 128) = true := by rw [and192]; simp [hc]
        go_wp2_with fail
        go_ret2
        exact ⟨by rw [HE.out, HC.out, HC'.out, if_neg hc]; rfl, rfl⟩
    · obtain rfl : j = n := by omega
      rw [Nat.sub_self] at HC
      have HF : Hid (dec ((L s).drop k) = if scal r ∧ wid r = j then (r, j) else (0, 0)) := by
        unfold Hid
        rw [HE.out, HC.out]
        rfl
      clear HC HE
      have HR := Lib.hid hr; clear hr
      by_cases hsc : scal r = true
      · by_cases hw : wid r = j
        · have hw' : ((wid r : Int) != j) = false := by rw [hw]; simp
          have HW := Lib.hid hw; clear hw
          go_wp2_with fail
          refine (scalar_any _ _).mono ?_
          rintro e w' ⟨rfl, rfl⟩
          go_wp2_with fail
          refine (width_any _ _).mono ?_
          rintro e w' ⟨rfl, rfl⟩
          go_wp2_with fail
          go_ret2
          exact ⟨by rw [HF.out, if_pos ⟨hsc, HW.out⟩]; rfl, rfl⟩
        · have hw' : ((wid r : Int) != j) = true := by rw [bne_iff_ne]; omega
          go_wp2_with fail
          refine (scalar_any _ _).mono ?_
          rintro e w' ⟨rfl, rfl⟩
          go_wp2_with fail
          refine (width_any _ _).mono ?_
          rintro e w' ⟨rfl, rfl⟩
          go_wp2_with fail
          go_ret2
          exact ⟨by rw [HF.out, if_neg (fun h => hw h.2)]; rfl, rfl⟩
      · have hsc' : scal r = false := by simpa using hsc
        go_wp2_with fail
        refine (scalar_any _ _).mono ?_
        rintro e w' ⟨rfl, rfl⟩
        go_wp2_with fail
        go_ret2
        exact ⟨by rw [HF.out, if_neg (fun h => hsc h.1)]; rfl, rfl⟩
end Go.Proofs.YtlnpfpjncnkekaaGreatDoor

namespace Go.Proofs.YtlnpfpjncnkekaaGreatDoor
open Go.RowKit
set_option maxHeartbeats 1000000
set_option maxRecDepth 100000

theorem conv_new (w : World) (xs : List Int) : (convert 26 9 (.slice (some ⟨w.heap.size, 0, none⟩) xs.length xs.length)).run Tryz.prog (w.alloc (.cells (xs.map (Value.int .u8)).toArray 5)) =
    .ok (.string ⟨(xs.map fun n => UInt8.ofNat n.toNat).toArray⟩) (w.alloc (.cells (xs.map (Value.int .u8)).toArray 5)) := by
  refine run_convert_bytes_arg (P := Tryz.prog) _ 26 5 Tryz.underlying26 Tryz.underlying5 w.heap.size 0 xs.length xs.length xs rfl (fun i hi => ?_) 9 Tryz.underlying9
  have := cell_of_row (w.alloc (.cells (xs.map (Value.int .u8)).toArray 5)) w.heap.size i (xs.map (Value.int .u8)).toArray 5 (0, 0) (heap_alloc_new w _)
  rw [Nat.zero_add, this]
  simp [List.getElem?_eq_getElem hi]
theorem conv1 (w : World) (a : Int) : (convert 26 9 (.slice (some ⟨w.heap.size, 0, none⟩) 1 1)).run Tryz.prog (w.alloc (.cells #[.int .u8 a] 5)) =
    .ok (.string ⟨#[UInt8.ofNat a.toNat]⟩) (w.alloc (.cells #[.int .u8 a] 5)) := conv_new w [a]
theorem conv2 (w : World) (a b : Int) : (convert 26 9 (.slice (some ⟨w.heap.size, 0, none⟩) 2 2)).run Tryz.prog (w.alloc (.cells #[.int .u8 a, .int .u8 b] 5)) =
    .ok (.string ⟨#[UInt8.ofNat a.toNat, UInt8.ofNat b.toNat]⟩) (w.alloc (.cells #[.int .u8 a, .int .u8 b] 5)) := conv_new w [a, b]
theorem conv3 (w : World) (a b c : Int) : (convert 26 9 (.slice (some ⟨w.heap.size, 0, none⟩) 3 3)).run Tryz.prog (w.alloc (.cells #[.int .u8 a, .int .u8 b, .int .u8 c] 5)) =
    .ok (.string ⟨#[UInt8.ofNat a.toNat, UInt8.ofNat b.toNat, UInt8.ofNat c.toNat]⟩) (w.alloc (.cells #[.int .u8 a, .int .u8 b, .int .u8 c] 5)) := conv_new w [a, b, c]
theorem conv4 (w : World) (a b c d : Int) : (convert 26 9 (.slice (some ⟨w.heap.size, 0, none⟩) 4 4)).run Tryz.prog (w.alloc (.cells #[.int .u8 a, .int .u8 b, .int .u8 c, .int .u8 d] 5)) =
    .ok (.string ⟨#[UInt8.ofNat a.toNat, UInt8.ofNat b.toNat, UInt8.ofNat c.toNat, UInt8.ofNat d.toNat]⟩) (w.alloc (.cells #[.int .u8 a, .int .u8 b, .int .u8 c, .int .u8 d] 5)) := conv_new w [a, b, c, d]

theorem shape_new (w : World) (C : Array Value) (e : TypeId) : (w.alloc (.cells C e)).shape? w.heap.size = some (e, C.size) := by
  have : (w.alloc (.cells C e)).heap[w.heap.size]? = some (.cells C e) := by
    show (w.heap.push (.cells C e))[w.heap.size]? = _
    simp
  unfold World.shape?
  rw [this]
theorem freeze_new (w : World) (C : Array Value) (e : TypeId) (n : Nat) : (w.alloc (.cells C e)).freeze ⟨w.heap.size, n, none⟩ 1 = w.alloc (.cells C e (n, n + 1)) := by
  have hm : ∀ (a : Array Obj) (x : Obj) (f : Obj → Obj), (a.push x).modify a.size f = a.push (f x) := by
    intro a x f
    apply Array.ext
    · simp
    · intro i h1 h2
      simp only [Array.getElem_modify, Array.getElem_push]
      by_cases h : a.size = i
      · subst h
        simp
      · have hi : i < a.size := by simp at h1; omega
        simp [h, hi]
  unfold World.freeze
  rw [if_neg (by decide)]
  show ({ w.alloc (.cells C e) with heap := (w.heap.push (.cells C e)).modify w.heap.size _ } : World) = _
  rw [hm]
  rfl
theorem conv_mark2 (w : World) (a b : Value) : (convert 26 26 (.slice (some ⟨w.heap.size, 0, none⟩) 2 2)).run Tryz.prog (w.alloc (.cells #[a, b] 5)) =
    .ok (.slice (some ⟨w.heap.size, 0, none⟩) 2 2) (w.alloc (.cells #[a, b] 5 (2, 3))) := by
  simp [convert, run_underlying Tryz.underlying26, run_underlying Tryz.underlying5, markStringish, shape_new]
  exact freeze_new w #[a, b] 5 2

theorem ret_str_ok {l l' : List UInt8} (h : l = l') : Ending.returned (.tuple #[.string ⟨l.toArray⟩, .int .i64 0]) = Ending.returned (.tuple #[.string ⟨l'.toArray⟩, .int .i64 0]) := by rw [h]
theorem div64 (r : Nat) : (r : Int) / 64 = ((r / 64 : Nat) : Int) := by omega
theorem div4096 (r : Nat) : (r : Int) / 64 / 64 = ((r / 4096 : Nat) : Int) := by omega
theorem div262144 (r : Nat) : (r : Int) / 64 / 64 / 64 = ((r / 262144 : Nat) : Int) := by omega
theorem and960 : bits BinOp.and IntKind.i64 960 255 = 192 := by decide +kernel
theorem and480 : bits BinOp.and IntKind.i64 480 255 = 224 := by decide +kernel
theorem and240 : bits BinOp.and IntKind.i64 240 255 = 240 := by decide +kernel

theorem Encode_1 (r : Nat) (w : World) (h0 : scal r = true) (h1 : wid r = 1) (h2 : Hid (r < 128)) :
    Calls Tryz.prog 138 #[.int .i64 r] w fun e w' => e = .returned (.tuple #[.string ⟨(enc r).toArray⟩, .int .i64 0]) ∧ Below w.heap.size w w' := by
  have HW := Lib.hid h1; clear h1
  go_enter Tryz.func138, Tryz.ntmps138
  go_wp2_with fail
  refine (scalar_any _ _).mono ?_
  rintro e w' ⟨rfl, rfl⟩
  go_wp2_with fail
  refine (width_any _ _).mono ?_
  rintro e w' ⟨rfl, rfl⟩
  rw [HW.out]
  go_wp2_with (rw [conv1])
  go_ret2
  refine ⟨ret_str_ok ?_, (Below.refl _ _).alloc (Nat.le_refl _) _⟩
  exact enc1 r h2.out

theorem Encode_2 (r : Nat) (w : World) (h0 : scal r = true) (h1 : wid r = 2) (h2 : Hid (128 ≤ r ∧ r < 2048)) :
    Calls Tryz.prog 138 #[.int .i64 r] w fun e w' => e = .returned (.tuple #[.string ⟨(enc r).toArray⟩, .int .i64 0]) ∧ Below w.heap.size w w' := by
  have HW := Lib.hid h1; clear h1
  have hmk : ∀ w, (Instr.makeSlice 26 (.int .i64 2) (.int .i64 2)).run Tryz.prog w = .ok (.slice (some ⟨w.heap.size, 0, none⟩) 2 2) (w.alloc (.cells #[.int .u8 0, .int .u8 0] 5)) := fun _ => by kernel_rfl
  go_enter Tryz.func138, Tryz.ntmps138
  go_wp2_with fail
  refine (scalar_any _ _).mono ?_
  rintro e w' ⟨rfl, rfl⟩
  go_wp2_with fail
  refine (width_any _ _).mono ?_
  rintro e w' ⟨rfl, rfl⟩
  rw [HW.out]
  go_wp2_with fail
  refine wp_loop_rounds 3 ?_
  rw [rounds_succ]
  go_wp2_with fail
  rw [rounds_succ]
  go_wp2_with (rw [conv2])
  go_ret2
  refine ⟨ret_str_ok ?_, (Below.refl _ _).alloc (Nat.le_refl _) _⟩
  rw [and960, div64 r]
  exact enc2 r h2.out.1 h2.out.2

theorem Encode_3 (r : Nat) (w : World) (h0 : scal r = true) (h1 : wid r = 3) (h2 : Hid (2048 ≤ r ∧ r < 65536)) :
    Calls Tryz.prog 138 #[.int .i64 r] w fun e w' => e = .returned (.tuple #[.string ⟨(enc r).toArray⟩, .int .i64 0]) ∧ Below w.heap.size w w' := by
  have HW := Lib.hid h1; clear h1
  have hmk : ∀ w, (Instr.makeSlice 26 (.int .i64 3) (.int .i64 3)).run Tryz.prog w = .ok (.slice (some ⟨w.heap.size, 0, none⟩) 3 3) (w.alloc (.cells #[.int .u8 0, .int .u8 0, .int .u8 0] 5)) := fun _ => by kernel_rfl
  go_enter Tryz.func138, Tryz.ntmps138
  go_wp2_with fail
  refine (scalar_any _ _).mono ?_
  rintro e w' ⟨rfl, rfl⟩
  go_wp2_with fail
  refine (width_any _ _).mono ?_
  rintro e w' ⟨rfl, rfl⟩
  rw [HW.out]
  go_wp2_with fail
  refine wp_loop_rounds 4 ?_
  rw [rounds_succ]
  go_wp2_with fail
  rw [rounds_succ]
  go_wp2_with fail
  rw [rounds_succ]
  go_wp2_with (rw [conv3])
  go_ret2
  refine ⟨ret_str_ok ?_, (Below.refl _ _).alloc (Nat.le_refl _) _⟩
  rw [and480, div4096 r, div64 r]
  exact enc3 r h2.out.1 h2.out.2

theorem Encode_4 (r : Nat) (w : World) (h0 : scal r = true) (h1 : wid r = 4) (h2 : Hid (65536 ≤ r ∧ r < 2097152)) :
    Calls Tryz.prog 138 #[.int .i64 r] w fun e w' => e = .returned (.tuple #[.string ⟨(enc r).toArray⟩, .int .i64 0]) ∧ Below w.heap.size w w' := by
  have HW := Lib.hid h1; clear h1
  have hmk : ∀ w, (Instr.makeSlice 26 (.int .i64 4) (.int .i64 4)).run Tryz.prog w = .ok (.slice (some ⟨w.heap.size, 0, none⟩) 4 4) (w.alloc (.cells #[.int .u8 0, .int .u8 0, .int .u8 0, .int .u8 0] 5)) := fun _ => by kernel_rfl
  go_enter Tryz.func138, Tryz.ntmps138
  go_wp2_with fail
  refine (scalar_any _ _).mono ?_
  rintro e w' ⟨rfl, rfl⟩
  go_wp2_with fail
  refine (width_any _ _).mono ?_
  rintro e w' ⟨rfl, rfl⟩
  rw [HW.out]
  go_wp2_with fail
  refine wp_loop_rounds 5 ?_
  rw [rounds_succ]
  go_wp2_with fail
  rw [rounds_succ]
  go_wp2_with fail
  rw [rounds_succ]
  go_wp2_with fail
  rw [rounds_succ]
  go_wp2_with (rw [conv4])
  go_ret2
  refine ⟨ret_str_ok ?_, (Below.refl _ _).alloc (Nat.le_refl _) _⟩
  rw [and240, div262144 r, div4096 r, div64 r]
  exact enc4 r h2.out.1 h2.out.2

theorem Encode_any (r : Nat) (w : World) (h0 : scal r = true) :
    Calls Tryz.prog 138 #[.int .i64 r] w fun e w' => e = .returned (.tuple #[.string ⟨(enc r).toArray⟩, .int .i64 0]) ∧ Below w.heap.size w w' := by
  rcases wid_cases r h0 with ⟨h, g⟩ | ⟨h, g⟩ | ⟨h, g⟩ | ⟨h, g⟩
  · exact Encode_1 r w h0 h g
  · exact Encode_2 r w h0 h g
  · exact Encode_3 r w h0 h g
  · exact Encode_4 r w h0 h g

end Go.Proofs.YtlnpfpjncnkekaaGreatDoor

namespace Go.Proofs.YtlnpfpjncnkekaaGreatDoor
open Go.RowKit

theorem grown_of_below {w w' : World} (h : Below w.heap.size w w') (row : Option Nat) : w.grownBy w' row :=
  ⟨h.os, h.tape, h.output, h.size, fun k hk _ => h.block k hk⟩
theorem own_below {w w' : World} {base : Nat} {e : TypeId} {size : Nat} {v : Value} {n : Nat} {xs : List Value} (h : w.ownsRow base e size v n xs) (hb : Below w.heap.size w w') : w'.ownsRow base e size v n xs :=
  h.kept (grown_of_below hb none) (by cases hv : v.ownBlock <;> simp)
theorem own_low {w : World} {base base' : Nat} {e : TypeId} {size : Nat} {v : Value} {n : Nat} {xs : List Value} (h : w.ownsRow base e size v n xs) (hb : base' ≤ base) : w.ownsRow base' e size v n xs := by
  refine ⟨h.1, ?_⟩
  rcases h.2 with h | ⟨g, cap, cur, h1, h2, h3⟩
  · exact .inl h
  · exact .inr ⟨g, cap, cur, h1, Nat.le_trans hb h2, h3⟩

/-- A slice type t whose elements are of type e: size cells each. -/
def Elem (P : Program) (t e : TypeId) (size : Nat) : Prop :=
  P.underlying t = some (.slice e) ∧ 0 < size ∧ ∃ (i : TypeInfo) (z : Value), P.info? e = some i ∧ i.zero = some z ∧ i.size = size ∧ i.bytes ≤ 1024 ∧ z.cells.size = size
theorem elem_of {P : Program} {t e : TypeId} {z : Value} {size bytes : Nat} (h0 : P.underlying t = some (.slice e)) (h : (P.info? e).map (fun i => (i.zero, i.size, i.bytes)) = some (some z, size, bytes)) (h1 : 0 < size) (h2 : bytes ≤ 1024) (h3 : z.cells.size = size) : Elem P t e size := by
  obtain ⟨i, hi, hz, hs, hb⟩ := info_parts h
  exact ⟨h0, h1, i, z, hi, hz, hs, by omega, h3⟩

theorem new_cells (w : World) (us : List Value) (e : TypeId) : ∀ j u, us[j]? = some u → (w.alloc (.cells us.toArray e)).cell? ((⟨w.heap.size, 0, none⟩ : Addr).add j) = some u := by
  intro j u hu
  have hadd : (⟨w.heap.size, 0, none⟩ : Addr).add j = ⟨w.heap.size, j, none⟩ := by unfold Addr.add; split <;> simp_all
  rw [hadd, cell_of_row (w.alloc (.cells us.toArray e)) w.heap.size j us.toArray e (0, 0) (heap_alloc_new w _)]
  simpa using hu

/-- 'v = append(v, x)': x is one element, just laid in a new block. -/
theorem wp_push {P : Program} {w1 : World} {ops : Array Oper} {rest : List Oper} {o : Oper} {a : Act} {Q : Exit → Act → World → Prop} {t e : TypeId} {size base n : Nat} {v : Value} {xs : List Value}
    (he : Elem P t e size) (hgd : o.guard = none) (s x : Operand) (ho : o.op = .call { callee := .builtin .append, args := #[s, x], argTypes := #[t, t] })
    (hown : w1.ownsRow base e size v n xs) (us : List Value) (hus : us.length = size) (h1 : ∀ u ∈ us, u.oneCell' = true) (hs : a.eval s = v) (hx : a.eval x = .slice (some ⟨w1.heap.size, 0, none⟩) 1 1)
    (hn : n < 100000000000) (hbase : base ≤ w1.heap.size)
    (h : ∀ v' w', w'.ownsRow base e size v' (n + 1) (xs ++ us) → w1.grownBy w' v.ownBlock → Below base w1 w' → wpList P ops Q rest (a.put o.dst v') w') :
    wpList P ops Q (o :: rest) a (w1.alloc (.cells us.toArray e)) := by
  obtain ⟨ht, hsz, i, z, hi, hz, hsi, hby, hzs⟩ := he
  refine wpList_append_own _ hgd s x t ho base e i z size i.bytes ht hi hz hsi rfl hzs hsz v n xs hs (hown.alloc _) ⟨w1.heap.size, 0, none⟩ 1 1 us hx (by rw [hus]; omega) (new_cells w1 us e) h1 (by simp only [maxLen]; omega) ?_ (by simp; omega) ?_
  · exact Nat.le_trans (Nat.mul_le_mul (show n + 1 ≤ 100000000000 by omega) hby) (by decide)
  · intro v' w' hown' hg _
    have hg' : w1.grownBy w' v.ownBlock := ⟨hg.os, hg.tape, hg.output, Nat.le_trans (by simp) hg.size, fun k hk hne => (hg.block k (by simp; omega) hne).trans (heap_alloc_old w1 _ hk)⟩
    exact h v' w' hown' hg' ((Below.refl base w1).grown hg' hbase (fun k hk => (hown.lt k hk).1))

/-! Rows of bytes. -/
def bv (b : UInt8) : Value := .int .u8 (b.toNat : Int)
theorem bv_one (l : List UInt8) : ∀ u ∈ l.map bv, u.oneCell' = true := by
  intro u hu
  obtain ⟨b, _, rfl⟩ := List.mem_map.1 hu
  rfl
theorem strCells_L (s : ByteArray) : Lib.strCells s = (L s).map bv := rfl
/-- t: the slices of bytes; u: strings; e: bytes. -/
def BytesT (P : Program) (t u e : TypeId) : Prop :=
  P.underlying t = some (.slice e) ∧ P.underlying u = some .string ∧ P.underlying e = some (.int .u8) ∧ ∃ i : TypeInfo, P.info? e = some i ∧ i.zero = some (.int .u8 0) ∧ i.size = 1 ∧ i.bytes = 1
theorem bytesT_of {P : Program} {t u e : TypeId} (h0 : P.underlying t = some (.slice e)) (h1 : P.underlying u = some .string) (h2 : P.underlying e = some (.int .u8)) (h : (P.info? e).map (fun i => (i.zero, i.size, i.bytes)) = some (some (.int .u8 0), 1, 1)) : BytesT P t u e := by
  obtain ⟨i, hi, hz, hs, hb⟩ := info_parts h
  exact ⟨h0, h1, h2, i, hi, hz, hs, hb⟩
theorem BytesT.elem {P : Program} {t u e : TypeId} (h : BytesT P t u e) : Elem P t e 1 := by
  obtain ⟨h0, _, _, i, hi, hz, hs, hb⟩ := h
  exact ⟨h0, by decide, i, _, hi, hz, hs, by omega, rfl⟩

/-- 'v = append(v, s...)', s a string. -/
theorem wp_pushS {P : Program} {w1 : World} {ops : Array Oper} {rest : List Oper} {o : Oper} {a : Act} {Q : Exit → Act → World → Prop} {t u e : TypeId} {base n : Nat} {v : Value} {bs : List UInt8}
    (he : BytesT P t u e) (hgd : o.guard = none) (sl x : Operand) (ho : o.op = .call { callee := .builtin .append, args := #[sl, x], argTypes := #[t, u] })
    (hown : w1.ownsRow base e 1 v n (bs.map bv)) (s : ByteArray) (hs : a.eval sl = v) (hx : a.eval x = .string s)
    (hn : n + s.size < 100000000000000) (hbase : base ≤ w1.heap.size)
    (h : ∀ v' w', w'.ownsRow base e 1 v' (n + s.size) ((bs ++ L s).map bv) → w1.grownBy w' v.ownBlock → Below base w1 w' → wpList P ops Q rest (a.put o.dst v') w') :
    wpList P ops Q (o :: rest) a w1 := by
  obtain ⟨ht, hu, _, i, hi, hz, hsi, hby⟩ := he
  refine Lib.wpList_append_own_string w1 hgd sl x t u ho base e i ht hu hi hz hsi hby v n _ hs hown s hx (by simp only [maxLen]; omega) (by omega) hbase ?_
  intro v' w' hown' hg _
  rw [strCells_L, ← List.map_append] at hown'
  exact h v' w' hown' hg ((Below.refl base w1).grown hg hbase (fun k hk => (hown.lt k hk).1))

/-- 'string(v)' of a row of bytes. -/
theorem conv_own {P : Program} {w : World} {t u e : TypeId} {base n : Nat} {v : Value} {bs : List UInt8} (he : BytesT P t u e) (hown : w.ownsRow base e 1 v n (bs.map bv)) :
    (convert t u v).run P w = .ok (.string ⟨bs.toArray⟩) w := by
  obtain ⟨ht, hu, hb, _⟩ := he
  have hl := hown.1
  rw [List.length_map, Nat.mul_one] at hl
  rcases hown.2 with ⟨rfl, h0⟩ | ⟨g, cap, cur, rfl, _, hh, _, _, _, _⟩
  · have : bs = [] := List.eq_nil_of_length_eq_zero (by omega)
    subst this
    exact run_convert_bytes_nil w t e ht hb 0 0 u hu
  · subst hl
    refine run_convert_bytes_back w t u e ⟨g, 0, none⟩ cap bs ht hb hu (fun j hj => ?_)
    exact hown.cells (g := g) rfl j (bv bs[j]) (by rw [List.getElem?_map, List.getElem?_eq_getElem hj]; rfl)
end Go.Proofs.YtlnpfpjncnkekaaGreatDoor

namespace Go.Proofs.YtlnpfpjncnkekaaGreatDoor
open Go.RowKit
set_option maxHeartbeats 1000000
set_option maxRecDepth 100000

theorem character_any (r : Nat) (w : World) :
    Calls Tryz.prog 192 #[.int .i64 r] w fun e w' => e = .returned (.bool (scal r)) ∧ w = w' := by
  have h0 : (0 : Int) ≤ r := by omega
  by_cases h1 : (r : Int) ≤ 1114111
  · by_cases h2 : (r : Int) < 55296
    · go_enter Tryz.func192, Tryz.ntmps192
      go_wp2_with fail
      go_ret
      exact ⟨by rw [show scal r = true by simp [scal]; omega]; rfl, rfl⟩
    · by_cases h3 : (57343 : Int) < r
      · go_enter Tryz.func192, Tryz.ntmps192
        go_wp2_with fail
        go_ret
        exact ⟨by rw [show scal r = true by simp [scal]; omega]; rfl, rfl⟩
      · go_enter Tryz.func192, Tryz.ntmps192
        go_wp2_with fail
        go_ret
        exact ⟨by rw [show scal r = false by simp [scal]; omega]; rfl, rfl⟩
  · go_enter Tryz.func192, Tryz.ntmps192
    go_wp2_with fail
    go_ret
    exact ⟨by rw [show scal r = false by simp [scal]; omega]; rfl, rfl⟩


theorem Encode3_no (r : Nat) (w : World) (h0 : scal r = false) :
    Calls Tryz.prog 187 #[.int .i64 r] w fun e w' => e = .returned (.tuple #[.string ⟨([] : List UInt8).toArray⟩, .int .i64 2]) ∧ Below w.heap.size w w' := by
  go_enter Tryz.func187, Tryz.ntmps187
  go_wp2_with fail
  refine (character_any _ _).mono ?_
  rintro e w' ⟨rfl, rfl⟩
  go_wp2_with fail
  go_ret2
  exact ⟨rfl, Below.refl _ _⟩

theorem Encode3_1 (r : Nat) (w : World) (h0 : scal r = true) (h2 : Hid (r < 128)) :
    Calls Tryz.prog 187 #[.int .i64 r] w fun e w' => e = .returned (.tuple #[.string ⟨(enc r).toArray⟩, .int .i64 0]) ∧ Below w.heap.size w w' := by
  have g1 : ((r : Int) < 128) = True := eq_true (by have := h2.out; omega)
  go_enter Tryz.func187, Tryz.ntmps187
  go_wp2_with fail
  refine (character_any _ _).mono ?_
  rintro e w' ⟨rfl, rfl⟩
  go_wp2_with (rw [conv1])
  go_ret2
  refine ⟨ret_str_ok ?_, (Below.refl _ _).alloc (Nat.le_refl _) _⟩
  rw [← enc1 r h2.out]

theorem Encode3_2 (r : Nat) (w : World) (h0 : scal r = true) (h2 : Hid (128 ≤ r ∧ r < 2048)) :
    Calls Tryz.prog 187 #[.int .i64 r] w fun e w' => e = .returned (.tuple #[.string ⟨(enc r).toArray⟩, .int .i64 0]) ∧ Below w.heap.size w w' := by
  have g0 : ((r : Int) < 128) = False := eq_false (by have := h2.out; omega)
  have g2 : ((r : Int) < 2048) = True := eq_true (by have := h2.out; omega)
  go_enter Tryz.func187, Tryz.ntmps187
  go_wp2_with fail
  refine (character_any _ _).mono ?_
  rintro e w' ⟨rfl, rfl⟩
  go_wp2_with (rw [conv2])
  go_ret2
  refine ⟨ret_str_ok ?_, (Below.refl _ _).alloc (Nat.le_refl _) _⟩
  exact enc2 r h2.out.1 h2.out.2

theorem Encode3_3 (r : Nat) (w : World) (h0 : scal r = true) (h2 : Hid (2048 ≤ r ∧ r < 65536)) :
    Calls Tryz.prog 187 #[.int .i64 r] w fun e w' => e = .returned (.tuple #[.string ⟨(enc r).toArray⟩, .int .i64 0]) ∧ Below w.heap.size w w' := by
  have g0 : ((r : Int) < 128) = False := eq_false (by have := h2.out; omega)
  have g1 : ((r : Int) < 2048) = False := eq_false (by have := h2.out; omega)
  have g3 : ((r : Int) < 65536) = True := eq_true (by have := h2.out; omega)
  go_enter Tryz.func187, Tryz.ntmps187
  go_wp2_with fail
  refine (character_any _ _).mono ?_
  rintro e w' ⟨rfl, rfl⟩
  go_wp2_with (rw [conv3])
  go_ret2
  refine ⟨ret_str_ok ?_, (Below.refl _ _).alloc (Nat.le_refl _) _⟩
  exact enc3 r h2.out.1 h2.out.2

theorem Encode3_4 (r : Nat) (w : World) (h0 : scal r = true) (h2 : Hid (65536 ≤ r ∧ r < 2097152)) :
    Calls Tryz.prog 187 #[.int .i64 r] w fun e w' => e = .returned (.tuple #[.string ⟨(enc r).toArray⟩, .int .i64 0]) ∧ Below w.heap.size w w' := by
  have g0 : ((r : Int) < 128) = False := eq_false (by have := h2.out; omega)
  have g1 : ((r : Int) < 2048) = False := eq_false (by have := h2.out; omega)
  have g2 : ((r : Int) < 65536) = False := eq_false (by have := h2.out; omega)
  go_enter Tryz.func187, Tryz.ntmps187
  go_wp2_with fail
  refine (character_any _ _).mono ?_
  rintro e w' ⟨rfl, rfl⟩
  go_wp2_with (rw [conv4])
  go_ret2
  refine ⟨ret_str_ok ?_, (Below.refl _ _).alloc (Nat.le_refl _) _⟩
  exact enc4 r h2.out.1 h2.out.2

theorem Encode3_any (r : Nat) (w : World) (h0 : scal r = true) :
    Calls Tryz.prog 187 #[.int .i64 r] w fun e w' => e = .returned (.tuple #[.string ⟨(enc r).toArray⟩, .int .i64 0]) ∧ Below w.heap.size w w' := by
  rcases wid_cases r h0 with ⟨_, g⟩ | ⟨_, g⟩ | ⟨_, g⟩ | ⟨_, g⟩
  · exact Encode3_1 r w h0 g
  · exact Encode3_2 r w h0 g
  · exact Encode3_3 r w h0 g
  · exact Encode3_4 r w h0 g
end Go.Proofs.YtlnpfpjncnkekaaGreatDoor

namespace Go.Proofs.YtlnpfpjncnkekaaGreatDoor
open Go.RowKit
set_option maxHeartbeats 1000000
set_option maxRecDepth 100000

def vErr (l : List UInt8) : Nat := if validL l then 0 else 5
theorem Len_any (s : ByteArray) (w : World) (hs : s.size ≤ 100000000000) :
    Calls Tryz.prog 66 #[.string s] w fun e w' => (∃ n : Int, e = .returned (.tuple #[.int .i64 n, .int .i64 (vErr (L s))])) ∧ w = w' := by
  have hm : s.size ≤ maxLen := by simp only [maxLen]; omega
  go_enter Tryz.func66, Tryz.ntmps66
  go_wp2_with fail
  go_loop [4, 5, 6, 7] (fun n at_ _ _ => ∃ (k m : Nat), k ≤ s.size ∧ m ≤ k ∧ at_ = .int .i64 k ∧ n = .int .i64 m ∧ Hid (badL (L s) = k + badL ((L s).drop k))) (fun _ at_ _ _ => s.size - (intOf at_).toNat)
  case atStart => exact ⟨0, 0, Nat.zero_le _, Nat.le_refl _, rfl, rfl, by unfold Hid; simp⟩
  case round =>
    obtain ⟨k, m, hk, hmk, rfl, rfl, HB⟩ := hrel
    by_cases hlt : k < s.size
    · have hd2 := dec_le ((L s).drop k)
      rw [List.length_drop, L_len] at hd2
      have HB1 := Lib.hid (badL_eq ((L s).drop k))
      go_wp2_with fail
      refine (Decode_any s k _ hm).mono ?_
      rintro e w1 ⟨rfl, rfl⟩
      generalize (dec ((L s).drop k)).1 = r at *
      generalize hnn : (dec ((L s).drop k)).2 = n at *
      clear hnn
      by_cases hn : n = 0
      · have HV : Hid (vErr (L s) = 5) := by
          have hv : validL (L s) = false := by
            unfold validL
            rw [HB.out, HB1.out, if_pos hn, L_len]
            simp; omega
          unfold Hid vErr
          rw [hv]
          rfl
        subst hn
        clear HB HB1
        go_wp2_with fail
        go_ret2
        exact ⟨⟨0, by rw [HV.out]; rfl⟩, rfl⟩
      · have hn0 : ((n : Int) == 0) = false := beq_eq_false_iff_ne.2 (by omega)
        have HF : Hid (badL (L s) = (k + n) + badL ((L s).drop (k + n))) := by
          unfold Hid
          rw [HB.out, HB1.out, if_neg hn, List.drop_drop]
          omega
        clear HB HB1
        go_wp2_with fail
        exact ⟨⟨k + n, m + 1, by omega, by omega, rfl, rfl, HF⟩, by simp [intOf]; omega⟩
    · obtain rfl : k = s.size := by omega
      have HV : Hid (vErr (L s) = 0) := by
        have hv : validL (L s) = true := by
          have hnil : (L s).drop s.size = [] := L_drop_nil s _ (Nat.le_refl _)
          unfold validL
          rw [HB.out, hnil, L_len]
          simp [badL, bad]
        unfold Hid vErr
        rw [hv]
        rfl
      clear HB
      go_wp2_with fail
      go_ret2
      exact ⟨⟨m, by rw [HV.out]; rfl⟩, rfl⟩
theorem Valid_any (s : ByteArray) (w : World) (hs : s.size ≤ 100000000000) :
    Calls Tryz.prog 26 #[.string s] w fun e w' => e = .returned (.bool (validL (L s))) ∧ w = w' := by
  go_enter Tryz.func26, Tryz.ntmps26
  go_wp2_with fail
  refine (Len_any s _ hs).mono ?_
  rintro e w1 ⟨⟨n, rfl⟩, rfl⟩
  unfold vErr
  cases hv : validL (L s)
  all_goals have HV := Lib.hid hv; clear hv
  · simp only [Bool.false_eq_true, if_false]
    go_wp2_with fail
    go_ret
    exact ⟨by rw [HV.out]; rfl, rfl⟩
  · simp only [if_true]
    go_wp2_with fail
    go_ret
    exact ⟨by rw [HV.out]; rfl, rfl⟩

/-! Names. -/
end Go.Proofs.YtlnpfpjncnkekaaGreatDoor

namespace Go.Proofs.YtlnpfpjncnkekaaGreatDoor
open Go.RowKit
set_option maxRecDepth 100000
set_option maxHeartbeats 1000000

/-- The new row lies where the old one lay, or in a new block. -/
def FreshRow (w : World) (v v' : Value) : Prop := v'.ownBlock = v.ownBlock ∨ ∀ g, v'.ownBlock = some g → w.heap.size ≤ g
theorem run_own2 {P : Program} {w : World} {t ty e : TypeId} {size base n : Nat} {v : Value} {xs : List Value} (he : Elem P t e size) (hown : w.ownsRow base e size v n xs)
    (a : Addr) (m c : Nat) (news : List Value) (hl : news.length = m * size) (hnews : ∀ j u, news[j]? = some u → w.cell? (a.add j) = some u) (h1 : ∀ u ∈ news, u.oneCell' = true)
    (hb : ∀ i, P.info? e = some i → (n + m) * i.bytes ≤ 140737488355328) (hm : n + m ≤ maxLen) (hbase : base ≤ w.heap.size) :
    ∃ v' w', (Builtin.append_ #[t, t] ty #[v, .slice (some a) m c]).run P w = .ok v' w' ∧ w'.ownsRow base e size v' (n + m) (xs ++ news) ∧ w.grownBy w' v.ownBlock ∧ FreshRow w v v' := by
  obtain ⟨ht, hsz, i, z, hi, hz, hsi, _, hzs⟩ := he
  subst hsi
  have hbytes := hb i hi
  have hm' : n + m ≤ 9223372036854775807 := by simp only [maxLen] at hm; omega
  obtain ⟨v', w', hr, h2, h3, _⟩ := run_append_own (P := P) w base t ty e i z i.size i.bytes ht hi hz rfl rfl hzs hsz v n xs hown a m c news hl hnews h1 hm hbytes hbase
  refine ⟨v', w', hr, h2, h3, ?_⟩
  rcases hown.2 with ⟨rfl, h0⟩ | ⟨g, cap, cur, rfl, hbg, hg, hnc, hcm, hcs, htake⟩
  · right
    have hown' : w.ownsRow w.heap.size e i.size (.slice none 0 0) n xs := ⟨hown.1, .inl ⟨rfl, h0⟩⟩
    obtain ⟨v'', w'', hr', h2', _, _⟩ := run_append_own (P := P) w w.heap.size t ty e i z i.size i.bytes ht hi hz rfl rfl hzs hsz _ n xs hown' a m c news hl hnews h1 hm hbytes (Nat.le_refl _)
    have he := hr.symm.trans hr'
    simp only [Result.ok.injEq] at he
    obtain ⟨rfl, rfl⟩ := he
    exact fun g hg => (h2'.lt g hg).1
  · by_cases hroom : n + m ≤ cap
    · left
      have hfit : n * i.size + news.length ≤ cur.size := by rw [hl, hcs, ← Nat.add_mul]; exact Nat.mul_le_mul_right _ hroom
      have hr' := run_append_room (P := P) w t ty e i ht hi g n cap cur hg a m c news hl hnews h1 hroom hfit
      have he := hr.symm.trans hr'
      simp only [Result.ok.injEq] at he
      rw [he.1]
      rfl
    · right
      have holds : ∀ j u, xs[j]? = some u → w.cell? ((⟨g, 0, none⟩ : Addr).add j) = some u := hown.cells (g := g) rfl
      have hr' := run_append_grow (P := P) w t ty e i z ht hi hz ⟨g, 0, none⟩ n cap xs hown.1 holds a m c news hl hnews (by omega) (by omega) (growslice_fits (by omega) hbytes)
      have he := hr.symm.trans hr'
      simp only [Result.ok.injEq] at he
      rw [he.1]
      intro k hk
      simp only [Value.ownBlock, Option.some.injEq] at hk
      omega

/-- 'v = append(v, x...)': x is a row in memory. -/
theorem wp_rowS {P : Program} {w : World} {ops : Array Oper} {rest : List Oper} {o : Oper} {a : Act} {Q : Exit → Act → World → Prop} {t e : TypeId} {size base n : Nat} {v : Value} {xs : List Value}
    (he : Elem P t e size) (hgd : o.guard = none) (s x : Operand) (ho : o.op = .call { callee := .builtin .append, args := #[s, x], argTypes := #[t, t] })
    (hown : w.ownsRow base e size v n xs) (ad : Addr) (m c : Nat) (us : List Value) (hus : us.length = m * size) (hc : ∀ j u, us[j]? = some u → w.cell? (ad.add j) = some u) (h1 : ∀ u ∈ us, u.oneCell' = true) (hs : a.eval s = v) (hx : a.eval x = .slice (some ad) m c)
    (hb : ∀ i, P.info? e = some i → (n + m) * i.bytes ≤ 140737488355328) (hm : n + m ≤ maxLen) (hbase : base ≤ w.heap.size)
    (h : ∀ v' w', w'.ownsRow base e size v' (n + m) (xs ++ us) → w.grownBy w' v.ownBlock → Below base w w' → FreshRow w v v' → wpList P ops Q rest (a.put o.dst v') w') :
    wpList P ops Q (o :: rest) a w := by
  refine wpList_plain hgd fun K hK => ?_
  obtain ⟨v', w', hr, h2, h3, h4⟩ := run_own2 (P := P) (ty := o.type) he hown ad m c us hus hc h1 hb hm hbase
  have hk := hK _ _ (h v' w' h2 h3 ((Below.refl base w).grown h3 hbase (fun k hk => (hown.lt k hk).1)) h4)
  unfold Oper.wp execOp
  simp only [ho, resolve, invoke, builtin, Sem.run_bind, Sem.run_pure, Result.andThen_ok, List.map_toArray, List.map_cons, List.map_nil, hs, hx, hr]
  exact hk
/-- 'v = append(v, x)': x is one element, just laid in a new block. -/
theorem wp_push2 {P : Program} {w1 : World} {ops : Array Oper} {rest : List Oper} {o : Oper} {a : Act} {Q : Exit → Act → World → Prop} {t e : TypeId} {size base n : Nat} {v : Value} {xs : List Value}
    (he : Elem P t e size) (hgd : o.guard = none) (s x : Operand) (ho : o.op = .call { callee := .builtin .append, args := #[s, x], argTypes := #[t, t] })
    (hown : w1.ownsRow base e size v n xs) (us : List Value) (hus : us.length = size) (h1 : ∀ u ∈ us, u.oneCell' = true) (hs : a.eval s = v) (hx : a.eval x = .slice (some ⟨w1.heap.size, 0, none⟩) 1 1)
    (hn : n < 100000000000) (hbase : base ≤ w1.heap.size)
    (h : ∀ v' w', w'.ownsRow base e size v' (n + 1) (xs ++ us) → w1.grownBy w' v.ownBlock → Below base w1 w' → FreshRow w1 v v' → wpList P ops Q rest (a.put o.dst v') w') :
    wpList P ops Q (o :: rest) a (w1.alloc (.cells us.toArray e)) := by
  refine wp_rowS he hgd s x ho (hown.alloc _) ⟨w1.heap.size, 0, none⟩ 1 1 us (by rw [hus]; omega) (new_cells w1 us e) h1 hs hx (fun i hi => ?_) (by simp only [maxLen]; omega) (by simp; omega) ?_
  · obtain ⟨_, _, i', _, hi', _, _, hby, _⟩ := he
    obtain rfl : i = i' := Option.some.inj (hi.symm.trans hi')
    exact Nat.le_trans (Nat.mul_le_mul (show n + 1 ≤ 100000000000 by omega) hby) (by decide)
  · intro v' w' hown' hg hb hf
    have hg' : w1.grownBy w' v.ownBlock := ⟨hg.os, hg.tape, hg.output, Nat.le_trans (by simp) hg.size, fun k hk hne => (hg.block k (by simp; omega) hne).trans (heap_alloc_old w1 _ hk)⟩
    refine h v' w' hown' hg' ((Below.refl base w1).grown hg' hbase (fun k hk => (hown.lt k hk).1)) ?_
    rcases hf with hf | hf
    · exact .inl hf
    · exact .inr fun g hg => Nat.le_trans (by simp) (hf g hg)
end Go.Proofs.YtlnpfpjncnkekaaGreatDoor
